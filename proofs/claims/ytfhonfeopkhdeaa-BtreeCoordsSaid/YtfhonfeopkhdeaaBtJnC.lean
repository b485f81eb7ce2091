/-
  join: two children and the key between them become one. No premise.
-/
import Derived.Test.YtfhonfeopkhdeaaBtDkC
namespace Go.Proofs.Ytfhonfeopkhdeaa.BC
open Go.RowKit Go.Proofs.YtfhonfeopkhdeaaW.PrintWords

theorem nw_trans {w V : World} {v v1 v2 : Value} (h1 : Nw w v v1) (h2 : Nw V v1 v2) (hs : w.heap.size ≤ V.heap.size) : Nw w v v2 := by
  rcases h2 with e | ⟨g, e, h⟩
  · rcases h1 with e1 | ⟨g, e1, h⟩
    · exact .inl (e.trans e1)
    · exact .inr ⟨g, e.trans e1, h⟩
  · exact .inr ⟨g, e, by omega⟩
theorem grown_nw {w V W : World} {v v1 : Value} (h1 : w.grownBy V v.ownBlock) (h2 : V.grownBy W v1.ownBlock) (hn : Nw w v v1) : w.grownBy W v.ownBlock :=
  ⟨h2.os.trans h1.os, h2.tape.trans h1.tape, h2.output.trans h1.output, Nat.le_trans h1.size h2.size, fun k hk hne => (h2.block k (Nat.lt_of_lt_of_le hk h1.size) (fun e => by
    rcases hn with e1 | ⟨g, e1, h⟩
    · exact hne (e.trans e1)
    · rw [e1] at e
      cases e
      omega)).trans (h1.block k hk hne)⟩
def JoinP (w : World) (o : Nat → Nat) (a x y : Nat) (FA FX FY : Nf Ky) (i : Nat) (ka : Ky) (va : Int) (e : Ending) (w' : World) : Prop :=
  e = .returned (.tuple #[]) ∧ ∃ o', Th w o a x y ⟨FA.ks.take i ++ FA.ks.drop (i + 1), FA.vs.take i ++ FA.vs.drop (i + 1), FA.cs.take (i + 1) ++ FA.cs.drop (i + 1 + 1)⟩ ⟨FX.ks ++ [ka] ++ FY.ks, FX.vs ++ [va] ++ FY.vs, FX.cs ++ FY.cs⟩ FY w' o'
noncomputable def jn_1_code : Code := ((Try.f108.body.bind (findRg 1)).getD .skip)
set_option maxRecDepth 1000000 in
set_option maxHeartbeats 8000000 in
theorem jn_1 (a x y i : Nat) (w : World) (o : Nat → Nat) (FA FX FY : Nf Ky) (HF : Hid (Fb o w)) (hax : a ≠ x) (_hay : a ≠ y) (hxy : x ≠ y) (hlx : FX.ks.length ≤ 1000) (hly : FY.ks.length ≤ 1000) (ka : Ky) (va : Int) (hka : FA.ks[i]? = some ka) (hva : FA.vs[i]? = some va) (wc : World) (oc : Nat → Nat) (HS : Hid (Th w o a x y FA FX FY wc oc)) {Q : Exit → Act → World → Prop} (t2 t3 t6 t7 t8 t9 t10 t11 t12 t13 t14 t15 t16 t17 t18 t19 t20 t21 t22 t23 t24 t25 t26 t27 t28 t29 t30 t31 t32 t33 t34 t35 t36 t37 t38 t39 t40 t41 t42 t43 t44 t45 t46 t47 t48 t49 t50 t51 t52 t53 t54 t55 t56 t57 t58 t59 t60 t61 t62 t63 t64 t65 t66 t67 t68 t69 t70 t71 t72 t73 t74 t75 t76 t77 t78 t79 t80 t81 t82 t83 t84 t85 t86 t87 t88 t89 t90 t91 t92 t93 t94 t95 t96 t97 t98 t99 t100 t101 t102 t103 t104 t105 t106 t107 t108 : Value) (hQ : ∀ (u21 u22 u23 u24 u25 u26 u27 u28 u29 u30 u31 u32 u33 u34 u35 u36 u37 u38 u39 u40 u41 : Value) (w' : World), (∃ oc3, Hid (Th w o a x y FA ⟨FX.ks ++ [ka] ++ FY.ks, FX.vs, FX.cs⟩ FY w' oc3)) → Q .normal ⟨(.pointer (some ⟨a, 0, none⟩) :: .int .i64 i :: t2 :: t3 :: .pointer (some ⟨x, 0, none⟩) :: .pointer (some ⟨y, 0, none⟩) :: t6 :: t7 :: t8 :: t9 :: t10 :: t11 :: t12 :: t13 :: t14 :: t15 :: t16 :: t17 :: t18 :: t19 :: t20 :: u21 :: u22 :: u23 :: u24 :: u25 :: u26 :: u27 :: u28 :: u29 :: u30 :: u31 :: u32 :: u33 :: u34 :: u35 :: u36 :: u37 :: u38 :: u39 :: u40 :: u41 :: t42 :: t43 :: t44 :: t45 :: t46 :: t47 :: t48 :: t49 :: t50 :: t51 :: t52 :: t53 :: t54 :: t55 :: t56 :: t57 :: t58 :: t59 :: t60 :: t61 :: t62 :: t63 :: t64 :: t65 :: t66 :: t67 :: t68 :: t69 :: t70 :: t71 :: t72 :: t73 :: t74 :: t75 :: t76 :: t77 :: t78 :: t79 :: t80 :: t81 :: t82 :: t83 :: t84 :: t85 :: t86 :: t87 :: t88 :: t89 :: t90 :: t91 :: t92 :: t93 :: t94 :: t95 :: t96 :: t97 :: t98 :: t99 :: t100 :: t101 :: t102 :: t103 :: t104 :: t105 :: t106 :: t107 :: t108 :: []).toArray, []⟩ w') :
    Code.wp Try.prog jn_1_code Q ⟨(.pointer (some ⟨a, 0, none⟩) :: .int .i64 i :: t2 :: t3 :: .pointer (some ⟨x, 0, none⟩) :: .pointer (some ⟨y, 0, none⟩) :: t6 :: t7 :: t8 :: t9 :: t10 :: t11 :: t12 :: t13 :: t14 :: t15 :: t16 :: t17 :: t18 :: t19 :: t20 :: t21 :: t22 :: t23 :: t24 :: t25 :: t26 :: t27 :: t28 :: t29 :: t30 :: t31 :: t32 :: t33 :: t34 :: t35 :: t36 :: t37 :: t38 :: t39 :: t40 :: t41 :: t42 :: t43 :: t44 :: t45 :: t46 :: t47 :: t48 :: t49 :: t50 :: t51 :: t52 :: t53 :: t54 :: t55 :: t56 :: t57 :: t58 :: t59 :: t60 :: t61 :: t62 :: t63 :: t64 :: t65 :: t66 :: t67 :: t68 :: t69 :: t70 :: t71 :: t72 :: t73 :: t74 :: t75 :: t76 :: t77 :: t78 :: t79 :: t80 :: t81 :: t82 :: t83 :: t84 :: t85 :: t86 :: t87 :: t88 :: t89 :: t90 :: t91 :: t92 :: t93 :: t94 :: t95 :: t96 :: t97 :: t98 :: t99 :: t100 :: t101 :: t102 :: t103 :: t104 :: t105 :: t106 :: t107 :: t108 :: []).toArray, []⟩ wc := by
  refine wp_onN ?_
  conv => arg 2; whnf
  obtain ⟨ak, av, ac, hA⟩ := HS.out.na
  obtain ⟨xk, xv, xc, hX⟩ := HS.out.nx
  obtain ⟨yk, yv, yc, hY⟩ := HS.out.ny
  obtain ⟨gk, c1, gv, c2, rfl, rfl, -, -, hi3, hi4⟩ := hA.rows hka hva
  obtain ⟨E1, e1, E2, e2, E3, e3, rfl, rfl, rfl, -⟩ := hX.row
  obtain ⟨G1, g1, G2, g2, G3, g3, rfl, rfl, rfl, -⟩ := hY.row
  have HKI := Lib.hid (fun V hb gv hv => key_appW hX (V := V) (by omega) ka hb gv hv)
  have HYN := Lib.hid (fun V (hg : wc.grownBy V (Value.slice E1 FX.ks.length e1).ownBlock) => hX.apart hY hxy (fun g e _ => hX.tk g e) hg)
  have HSK := Lib.hid (fun V (hg : wc.grownBy V (Value.slice E1 FX.ks.length e1).ownBlock) => And.intro (hX.hold hg hX.nek.1).1 (And.intro ((hX.apart hA (Ne.symm hax) (fun g e _ => hX.tk g e) hg).kat hka) (HYN.out V hg).cells.1))
  have HYR := Lib.hid (fun V hg => (HYN.out V hg).rk)
  have HLL := Lib.hid (show (FX.ks ++ [ka]).length + FY.ks.length ≤ 1000000 from by simp; omega)
  have HOK := Lib.hid (show ∀ k ∈ FX.ks ++ [ka] ++ FY.ks, k ∈ FX.ks ∨ KOk wc oc k from fun k hk => by
    rcases List.mem_append.1 hk with hk | hk
    · rcases List.mem_append.1 hk with hk | hk
      · exact .inl hk
      · rw [List.mem_singleton.1 hk]
        exact .inr (hA.ok _ (List.mem_of_getElem? hka))
    · exact .inr (hY.ok k hk))
  have HKK := Lib.hid (fun k (hk : KOk wc oc k) V (hg : wc.grownBy V (Value.slice E1 FX.ks.length e1).ownBlock) => ok_grown hX hk hg)
  have HXN := Lib.hid hX
  clear hA hX hY
  refine wp_region_Y1 (by kernel_rfl) ?_
  intro V hV
  refine wpY_take (i := 0) (v := ?_) [] rfl (by kernel_rfl) (by kernel_rfl) (by kernel_rfl) (by kernel_rfl) (fun _ _ _ h => h) (Or.inl ⟨by rfl, ?_⟩) trivial ?_
  rotate_left
  · (intro wS hSw; (try dsimp only at hSw); go_simp; (try (with_reducible rfl)))
  try simp only [Act.put, List.setIfInBounds_toArray]
  refine wpY_take (i := 1) (v := ?_) [] rfl (by kernel_rfl) (by kernel_rfl) (by kernel_rfl) (by kernel_rfl) (fun _ _ _ h => h) (Or.inl ⟨by rfl, ?_⟩) trivial ?_
  rotate_left
  · (intro wS hSw; (try dsimp only at hSw); go_simp; (try (with_reducible rfl)))
  try simp only [Act.put]
  refine wpY_take (i := 2) (v := ?_) [] rfl (by kernel_rfl) (by kernel_rfl) (by kernel_rfl) (by kernel_rfl) (fun _ _ _ h => h) (Or.inl ⟨by rfl, ?_⟩) trivial ?_
  rotate_left
  · (intro wS hSw; (try dsimp only at hSw); go_simp; (try (with_reducible rfl)))
  try simp only [Act.put]
  refine wpY_take (i := 3) (v := ?_) [] rfl (by kernel_rfl) (by kernel_rfl) (by kernel_rfl) (by kernel_rfl) (fun _ _ _ h => h) (Or.inl ⟨by rfl, ?_⟩) trivial ?_
  rotate_left
  · (intro wS hSw; (try dsimp only at hSw); go_simp; (try (with_reducible rfl)))
  try simp only [Act.put]
  refine wpY_take (i := 5) (v := ?_) [] rfl (by kernel_rfl) (by kernel_rfl) (by kernel_rfl) (by kernel_rfl) (fun _ _ _ h => h) (Or.inl ⟨by rfl, ?_⟩) trivial ?_
  rotate_left
  · (intro wS hSw; (try dsimp only at hSw); go_simp; (try (with_reducible rfl)))
  try simp only [Act.put]
  refine wpY_take (i := 6) (v := ?_) [] rfl (by kernel_rfl) (by kernel_rfl) (by kernel_rfl) (by kernel_rfl) (fun _ _ _ h => h) (Or.inl ⟨by rfl, ?_⟩) trivial ?_
  rotate_left
  · (intro wS hSw; (try dsimp only at hSw); go_simp; (try (with_reducible rfl)))
  try simp only [Act.put]
  refine wpY_take (i := 7) (v := ?_) [] rfl (by kernel_rfl) (by kernel_rfl) (by kernel_rfl) (by kernel_rfl) (fun _ _ _ h => h) (Or.inl ⟨by rfl, ?_⟩) trivial ?_
  rotate_left
  · (intro wS hSw; (try dsimp only at hSw); go_simp; (try (with_reducible rfl)))
  try simp only [Act.put]
  refine wpY_take (i := 9) (v := ?_) [] rfl (by kernel_rfl) (by kernel_rfl) (by kernel_rfl) (by kernel_rfl) (fun _ _ _ h => h) (Or.inl ⟨by rfl, ?_⟩) trivial ?_
  rotate_left
  · (intro wS hSw; (try dsimp only at hSw); go_simp; (try (with_reducible rfl)))
  try simp only [Act.put]
  refine wpY_take (i := 14) (v := ?_) [] rfl (by kernel_rfl) (by kernel_rfl) (by kernel_rfl) (by kernel_rfl) (fun _ _ _ h => h) (Or.inl ⟨by rfl, ?_⟩) trivial ?_
  rotate_left
  · (intro wS hSw; (try dsimp only at hSw); go_simp; (try (with_reducible rfl)))
  try simp only [Act.put]
  refine wpY_take (i := 15) (v := ?_) [] rfl (by kernel_rfl) (by kernel_rfl) (by kernel_rfl) (by kernel_rfl) (fun _ _ _ h => h) (Or.inl ⟨by rfl, ?_⟩) trivial ?_
  rotate_left
  · (intro wS hSw; (try dsimp only at hSw); go_simp; (try (with_reducible rfl)))
  try simp only [Act.put]
  refine wpY_take (i := 16) (v := ?_) [] rfl (by kernel_rfl) (by kernel_rfl) (by kernel_rfl) (by kernel_rfl) (fun _ _ _ h => h) (Or.inl ⟨by rfl, ?_⟩) trivial ?_
  rotate_left
  · (intro wS hSw; (try dsimp only at hSw); go_simp; (try (with_reducible rfl)))
  try simp only [Act.put]
  have HB := Lib.hid (show Below wc.heap.size wc V from by rw [hV]; exact (Below.refl _ _).drew)
  clear hV
  have HG := Lib.hid (show wc.grownBy V (Value.slice E1 FX.ks.length e1).ownBlock from below_grown HB.out _)
  have hS0 := HSK.out V HG.out
  refine wpY_swap ((fun W' => W'.cell? ⟨x, 0, none⟩ = some (.slice E1 FX.ks.length e1) ∧ (W'.cell? ⟨a, 0, none⟩ = some (.slice (some ⟨gk, 0, none⟩) FA.ks.length c1) ∧ W'.cell? ⟨gk, i, none⟩ = some (.slice (ka).A (ka).l.length (ka).c)) ∧ W'.cell? ⟨y, 0, none⟩ = some (.slice G1 FY.ks.length g1))) [18, 19, 20, 21] ?_
  refine wpY_take (i := 4) (v := ?_) [[18, 13], [19], [20], [21]] rfl (by kernel_rfl) (by kernel_rfl) (by kernel_rfl) (by kernel_rfl) (fun _ _ _ h => h) (Or.inl ⟨by rfl, ?_⟩) (by assumption) ?_
  rotate_left
  · (intro wS hSw; (try dsimp only at hSw); go_simp; (try (with_reducible rfl)))
  try simp only [Act.put]
  refine wpY_take (i := 8) (v := ?_) [[18, 13, 12, 11, 10], [19], [20], [21]] rfl (by kernel_rfl) (by kernel_rfl) (by kernel_rfl) (by kernel_rfl) (fun _ _ _ h => h) (Or.inl ⟨by rfl, ?_⟩) (by assumption) ?_
  rotate_left
  · (intro wS hSw; (try dsimp only at hSw); go_simp; (try (with_reducible rfl)))
  try simp only [Act.put]
  refine wpY_take (i := 10) (v := ?_) [[18, 13, 12, 11], [19], [20], [21]] rfl (by kernel_rfl) (by kernel_rfl) (by kernel_rfl) (by kernel_rfl) (fun _ _ _ h => h) (Or.inl ⟨by rfl, ?_⟩) (by assumption) ?_
  rotate_left
  · (intro wS hSw; (try dsimp only at hSw); go_simp; (try (with_reducible rfl)))
  try simp only [Act.put]
  refine wpY_take (i := 11) (v := ?_) [[18, 13, 12], [19], [20], [21]] rfl (by kernel_rfl) (by kernel_rfl) (by kernel_rfl) (by kernel_rfl) (fun _ _ _ h => h) (Or.inl ⟨by rfl, ?_⟩) (by assumption) ?_
  rotate_left
  · (intro wS hSw; (try dsimp only at hSw); go_simp; (try (with_reducible rfl)))
  try simp only [Act.put]
  refine wpY_take (i := 17) (v := ?_) [[18], [19], [20], [21]] rfl (by kernel_rfl) (by kernel_rfl) (by kernel_rfl) (by kernel_rfl) (fun _ _ _ h => h) (Or.inl ⟨by rfl, ?_⟩) (by assumption) ?_
  rotate_left
  · (intro wS hSw; (try dsimp only at hSw); go_simp; (try (with_reducible rfl)))
  try simp only [Act.put]
  refine wpY_one (i := 12) (by kernel_rfl) rfl (fun K hK => ?_)
  go_simp
  have H12 := Lib.hid (top_blk V #[(.slice (ka).A (ka).l.length (ka).c)] 22)
  have HB := Lib.hid (HB.out.alloc HB.out.size (.cells #[(.slice (ka).A (ka).l.length (ka).c)] 22))
  have HG := Lib.hid (grown_alloc HG.out (.cells #[(.slice (ka).A (ka).l.length (ka).c)] 22))
  refine letK ?_
  intro V hV
  rw [← hV] at H12 HB HG
  clear hV
  refine hK.out _ _ (.inr (HSK.out _ HG.out)) ?_
  clear hK K
  try simp only [Act.put, List.setIfInBounds_toArray, List.set_cons_zero, List.set_cons_succ]
  refine wpY_one (i := 13) (by kernel_rfl) rfl (fun K hK => ?_)
  obtain ⟨v1, V', hrun, hr2, hg2, hn2⟩ := HKI.out V HB.out _ H12.out
  obtain ⟨Ak, lk, ck, rfl⟩ := rw_slice hr2
  refine step_run rfl (.tmp 25) (.tmp 33) 69 69 rfl _ _ (by rfl) (by rfl) _ _ hrun ?_
  clear hrun
  have HG := Lib.hid (HG.out.trans hg2)
  have HR13 := Lib.hid hr2
  have HN13 := Lib.hid hn2
  clear hr2 hg2 hn2 HB H12
  refine letK ?_
  intro V hV
  rw [← hV] at HR13 HG
  clear hV
  refine hK.out _ _ (.inr (HSK.out _ HG.out)) ?_
  clear hK K
  try simp only [Act.put, List.setIfInBounds_toArray]
  refine wpY_one (i := 18) (by kernel_rfl) rfl (fun K hK => ?_)
  obtain ⟨v2, V', hrun, hr3, hg3, hn3⟩ := row_appC HR13.out (HYR.out V HG.out) rfl HLL.out
  obtain ⟨Av, lv, cv, rfl⟩ := rw_slice hr3
  refine step_run rfl (.tmp 34) (.tmp 38) 69 69 rfl _ _ (by rfl) (by rfl) _ _ hrun ?_
  clear hrun
  have HN18 := Lib.hid (nw_trans HN13.out hn3 HG.out.size)
  have HG := Lib.hid (grown_nw HG.out hg3 HN13.out)
  have HR18 := Lib.hid hr3
  clear hr3 hg3 hn3 HR13 HN13
  refine letK ?_
  intro V hV
  rw [← hV] at HR18 HG
  clear hV
  obtain ⟨f0, f1, f2, f3⟩ := HXN.out.hold HG.out HXN.out.nek.1
  have f30 := f3 0
  clear f3
  refine hK.out _ _ (.inl (by decide)) ?_
  clear hK K
  try simp only [Act.put]
  refine wpY_one (i := 19) (by kernel_rfl) rfl (fun K hK => ?_)
  go_simp
  refine hK.out _ _ (.inl (by decide)) ?_
  clear hK K
  try simp only [Act.put, List.setIfInBounds_toArray, List.set_cons_zero, List.set_cons_succ]
  refine wpY_one (i := 20) (by kernel_rfl) rfl (fun K hK => ?_)
  go_simp
  refine hK.out _ _ (.inl (by decide)) ?_
  clear hK K
  try simp only [Act.put, List.setIfInBounds_toArray, List.set_cons_zero, List.set_cons_succ]
  refine wpY_one (i := 21) (by kernel_rfl) rfl (fun K hK => ?_)
  go_simp
  refine hK.out _ _ (.inl (by decide)) ?_
  clear hK K
  try simp only [Act.put, List.setIfInBounds_toArray, List.set_cons_zero, List.set_cons_succ]
  refine wpY_done (by kernel_rfl) ?_ _
  apply hQ
  obtain ⟨hX5, hU5⟩ := HXN.out.sk (mid_plain HS.out.up.fb (Below.refl _ _) HG.out HN18.out) HR18.out (fun k hk => (HOK.out k hk).imp id fun h => HKK.out k h _ HG.out)
  exact ⟨_, Lib.hid (HS.out.stepX HF.out hax hxy hX5 hU5)⟩
noncomputable def jn_2_code : Code := ((Try.f108.body.bind (findRg 2)).getD .skip)
set_option maxRecDepth 1000000 in
set_option maxHeartbeats 8000000 in
theorem jn_2 (a x y i : Nat) (w : World) (o : Nat → Nat) (FA FX FY : Nf Ky) (HF : Hid (Fb o w)) (hax : a ≠ x) (_hay : a ≠ y) (hxy : x ≠ y) (hlx : FX.vs.length ≤ 1000) (hly : FY.vs.length ≤ 1000) (ka : Ky) (va : Int) (hka : FA.ks[i]? = some ka) (hva : FA.vs[i]? = some va) (wc : World) (oc : Nat → Nat) (HS : Hid (Th w o a x y FA FX FY wc oc)) {Q : Exit → Act → World → Prop} (t2 t3 t6 t7 t8 t9 t10 t11 t12 t13 t14 t15 t16 t17 t18 t19 t20 t21 t22 t23 t24 t25 t26 t27 t28 t29 t30 t31 t32 t33 t34 t35 t36 t37 t38 t39 t40 t41 t42 t43 t44 t45 t46 t47 t48 t49 t50 t51 t52 t53 t54 t55 t56 t57 t58 t59 t60 t61 t62 t63 t64 t65 t66 t67 t68 t69 t70 t71 t72 t73 t74 t75 t76 t77 t78 t79 t80 t81 t82 t83 t84 t85 t86 t87 t88 t89 t90 t91 t92 t93 t94 t95 t96 t97 t98 t99 t100 t101 t102 t103 t104 t105 t106 t107 t108 : Value) (hQ : ∀ (u42 u43 u44 u45 u46 u47 u48 u49 u50 u51 u52 u53 u54 u55 u56 u57 u58 u59 u60 u61 u62 : Value) (w' : World), (∃ oc3, Hid (Th w o a x y FA ⟨FX.ks, FX.vs ++ [va] ++ FY.vs, FX.cs⟩ FY w' oc3)) → Q .normal ⟨(.pointer (some ⟨a, 0, none⟩) :: .int .i64 i :: t2 :: t3 :: .pointer (some ⟨x, 0, none⟩) :: .pointer (some ⟨y, 0, none⟩) :: t6 :: t7 :: t8 :: t9 :: t10 :: t11 :: t12 :: t13 :: t14 :: t15 :: t16 :: t17 :: t18 :: t19 :: t20 :: t21 :: t22 :: t23 :: t24 :: t25 :: t26 :: t27 :: t28 :: t29 :: t30 :: t31 :: t32 :: t33 :: t34 :: t35 :: t36 :: t37 :: t38 :: t39 :: t40 :: t41 :: u42 :: u43 :: u44 :: u45 :: u46 :: u47 :: u48 :: u49 :: u50 :: u51 :: u52 :: u53 :: u54 :: u55 :: u56 :: u57 :: u58 :: u59 :: u60 :: u61 :: u62 :: t63 :: t64 :: t65 :: t66 :: t67 :: t68 :: t69 :: t70 :: t71 :: t72 :: t73 :: t74 :: t75 :: t76 :: t77 :: t78 :: t79 :: t80 :: t81 :: t82 :: t83 :: t84 :: t85 :: t86 :: t87 :: t88 :: t89 :: t90 :: t91 :: t92 :: t93 :: t94 :: t95 :: t96 :: t97 :: t98 :: t99 :: t100 :: t101 :: t102 :: t103 :: t104 :: t105 :: t106 :: t107 :: t108 :: []).toArray, []⟩ w') :
    Code.wp Try.prog jn_2_code Q ⟨(.pointer (some ⟨a, 0, none⟩) :: .int .i64 i :: t2 :: t3 :: .pointer (some ⟨x, 0, none⟩) :: .pointer (some ⟨y, 0, none⟩) :: t6 :: t7 :: t8 :: t9 :: t10 :: t11 :: t12 :: t13 :: t14 :: t15 :: t16 :: t17 :: t18 :: t19 :: t20 :: t21 :: t22 :: t23 :: t24 :: t25 :: t26 :: t27 :: t28 :: t29 :: t30 :: t31 :: t32 :: t33 :: t34 :: t35 :: t36 :: t37 :: t38 :: t39 :: t40 :: t41 :: t42 :: t43 :: t44 :: t45 :: t46 :: t47 :: t48 :: t49 :: t50 :: t51 :: t52 :: t53 :: t54 :: t55 :: t56 :: t57 :: t58 :: t59 :: t60 :: t61 :: t62 :: t63 :: t64 :: t65 :: t66 :: t67 :: t68 :: t69 :: t70 :: t71 :: t72 :: t73 :: t74 :: t75 :: t76 :: t77 :: t78 :: t79 :: t80 :: t81 :: t82 :: t83 :: t84 :: t85 :: t86 :: t87 :: t88 :: t89 :: t90 :: t91 :: t92 :: t93 :: t94 :: t95 :: t96 :: t97 :: t98 :: t99 :: t100 :: t101 :: t102 :: t103 :: t104 :: t105 :: t106 :: t107 :: t108 :: []).toArray, []⟩ wc := by
  refine wp_onN ?_
  conv => arg 2; whnf
  obtain ⟨ak, av, ac, hA⟩ := HS.out.na
  obtain ⟨xk, xv, xc, hX⟩ := HS.out.nx
  obtain ⟨yk, yv, yc, hY⟩ := HS.out.ny
  obtain ⟨gk, c1, gv, c2, rfl, rfl, -, -, hi3, hi4⟩ := hA.rows hka hva
  obtain ⟨E1, e1, E2, e2, E3, e3, rfl, rfl, rfl, -⟩ := hX.row
  obtain ⟨G1, g1, G2, g2, G3, g3, rfl, rfl, rfl, -⟩ := hY.row
  have HKI := Lib.hid (fun V hb gv hv => val_appB hX (V := V) (by omega) va hb gv hv)
  have HYN := Lib.hid (fun V (hg : wc.grownBy V (Value.slice E2 FX.vs.length e2).ownBlock) => hX.apart hY hxy (fun g e _ => hX.tv g e) hg)
  have HSK := Lib.hid (fun V (hg : wc.grownBy V (Value.slice E2 FX.vs.length e2).ownBlock) => And.intro (hX.hold hg hX.nek.2.1).2.1 (And.intro ((hX.apart hA (Ne.symm hax) (fun g e _ => hX.tv g e) hg).vat hva) (HYN.out V hg).cells.2.1))
  have HYR := Lib.hid (fun V hg => (HYN.out V hg).rv)
  have HLL := Lib.hid (show (FX.vs ++ [va]).length + FY.vs.length ≤ 1000000 from by simp; omega)
  have HXN := Lib.hid hX
  clear hA hX hY
  refine wp_region_Y1 (by kernel_rfl) ?_
  intro V hV
  refine wpY_take (i := 0) (v := ?_) [] rfl (by kernel_rfl) (by kernel_rfl) (by kernel_rfl) (by kernel_rfl) (fun _ _ _ h => h) (Or.inl ⟨by rfl, ?_⟩) trivial ?_
  rotate_left
  · (intro wS hSw; (try dsimp only at hSw); go_simp; (try (with_reducible rfl)))
  try simp only [Act.put, List.setIfInBounds_toArray]
  refine wpY_take (i := 1) (v := ?_) [] rfl (by kernel_rfl) (by kernel_rfl) (by kernel_rfl) (by kernel_rfl) (fun _ _ _ h => h) (Or.inl ⟨by rfl, ?_⟩) trivial ?_
  rotate_left
  · (intro wS hSw; (try dsimp only at hSw); go_simp; (try (with_reducible rfl)))
  try simp only [Act.put]
  refine wpY_take (i := 2) (v := ?_) [] rfl (by kernel_rfl) (by kernel_rfl) (by kernel_rfl) (by kernel_rfl) (fun _ _ _ h => h) (Or.inl ⟨by rfl, ?_⟩) trivial ?_
  rotate_left
  · (intro wS hSw; (try dsimp only at hSw); go_simp; (try (with_reducible rfl)))
  try simp only [Act.put]
  refine wpY_take (i := 3) (v := ?_) [] rfl (by kernel_rfl) (by kernel_rfl) (by kernel_rfl) (by kernel_rfl) (fun _ _ _ h => h) (Or.inl ⟨by rfl, ?_⟩) trivial ?_
  rotate_left
  · (intro wS hSw; (try dsimp only at hSw); go_simp; (try (with_reducible rfl)))
  try simp only [Act.put]
  refine wpY_take (i := 5) (v := ?_) [] rfl (by kernel_rfl) (by kernel_rfl) (by kernel_rfl) (by kernel_rfl) (fun _ _ _ h => h) (Or.inl ⟨by rfl, ?_⟩) trivial ?_
  rotate_left
  · (intro wS hSw; (try dsimp only at hSw); go_simp; (try (with_reducible rfl)))
  try simp only [Act.put]
  refine wpY_take (i := 6) (v := ?_) [] rfl (by kernel_rfl) (by kernel_rfl) (by kernel_rfl) (by kernel_rfl) (fun _ _ _ h => h) (Or.inl ⟨by rfl, ?_⟩) trivial ?_
  rotate_left
  · (intro wS hSw; (try dsimp only at hSw); go_simp; (try (with_reducible rfl)))
  try simp only [Act.put]
  refine wpY_take (i := 7) (v := ?_) [] rfl (by kernel_rfl) (by kernel_rfl) (by kernel_rfl) (by kernel_rfl) (fun _ _ _ h => h) (Or.inl ⟨by rfl, ?_⟩) trivial ?_
  rotate_left
  · (intro wS hSw; (try dsimp only at hSw); go_simp; (try (with_reducible rfl)))
  try simp only [Act.put]
  refine wpY_take (i := 9) (v := ?_) [] rfl (by kernel_rfl) (by kernel_rfl) (by kernel_rfl) (by kernel_rfl) (fun _ _ _ h => h) (Or.inl ⟨by rfl, ?_⟩) trivial ?_
  rotate_left
  · (intro wS hSw; (try dsimp only at hSw); go_simp; (try (with_reducible rfl)))
  try simp only [Act.put]
  refine wpY_take (i := 14) (v := ?_) [] rfl (by kernel_rfl) (by kernel_rfl) (by kernel_rfl) (by kernel_rfl) (fun _ _ _ h => h) (Or.inl ⟨by rfl, ?_⟩) trivial ?_
  rotate_left
  · (intro wS hSw; (try dsimp only at hSw); go_simp; (try (with_reducible rfl)))
  try simp only [Act.put]
  refine wpY_take (i := 15) (v := ?_) [] rfl (by kernel_rfl) (by kernel_rfl) (by kernel_rfl) (by kernel_rfl) (fun _ _ _ h => h) (Or.inl ⟨by rfl, ?_⟩) trivial ?_
  rotate_left
  · (intro wS hSw; (try dsimp only at hSw); go_simp; (try (with_reducible rfl)))
  try simp only [Act.put]
  refine wpY_take (i := 16) (v := ?_) [] rfl (by kernel_rfl) (by kernel_rfl) (by kernel_rfl) (by kernel_rfl) (fun _ _ _ h => h) (Or.inl ⟨by rfl, ?_⟩) trivial ?_
  rotate_left
  · (intro wS hSw; (try dsimp only at hSw); go_simp; (try (with_reducible rfl)))
  try simp only [Act.put]
  have HB := Lib.hid (show Below wc.heap.size wc V from by rw [hV]; exact (Below.refl _ _).drew)
  clear hV
  have HG := Lib.hid (show wc.grownBy V (Value.slice E2 FX.vs.length e2).ownBlock from below_grown HB.out _)
  have hS0 := HSK.out V HG.out
  refine wpY_swap ((fun W' => W'.cell? ⟨x, 1, none⟩ = some (.slice E2 FX.vs.length e2) ∧ (W'.cell? ⟨a, 1, none⟩ = some (.slice (some ⟨gv, 0, none⟩) FA.vs.length c2) ∧ W'.cell? ⟨gv, i, none⟩ = some (.int .u64 va)) ∧ W'.cell? ⟨y, 1, none⟩ = some (.slice G2 FY.vs.length g2))) [18, 19, 20, 21] ?_
  refine wpY_take (i := 4) (v := ?_) [[18, 13], [19], [20], [21]] rfl (by kernel_rfl) (by kernel_rfl) (by kernel_rfl) (by kernel_rfl) (fun _ _ _ h => h) (Or.inl ⟨by rfl, ?_⟩) (by assumption) ?_
  rotate_left
  · (intro wS hSw; (try dsimp only at hSw); go_simp; (try (with_reducible rfl)))
  try simp only [Act.put]
  refine wpY_take (i := 8) (v := ?_) [[18, 13, 12, 11, 10], [19], [20], [21]] rfl (by kernel_rfl) (by kernel_rfl) (by kernel_rfl) (by kernel_rfl) (fun _ _ _ h => h) (Or.inl ⟨by rfl, ?_⟩) (by assumption) ?_
  rotate_left
  · (intro wS hSw; (try dsimp only at hSw); go_simp; (try (with_reducible rfl)))
  try simp only [Act.put]
  refine wpY_take (i := 10) (v := ?_) [[18, 13, 12, 11], [19], [20], [21]] rfl (by kernel_rfl) (by kernel_rfl) (by kernel_rfl) (by kernel_rfl) (fun _ _ _ h => h) (Or.inl ⟨by rfl, ?_⟩) (by assumption) ?_
  rotate_left
  · (intro wS hSw; (try dsimp only at hSw); go_simp; (try (with_reducible rfl)))
  try simp only [Act.put]
  refine wpY_take (i := 11) (v := ?_) [[18, 13, 12], [19], [20], [21]] rfl (by kernel_rfl) (by kernel_rfl) (by kernel_rfl) (by kernel_rfl) (fun _ _ _ h => h) (Or.inl ⟨by rfl, ?_⟩) (by assumption) ?_
  rotate_left
  · (intro wS hSw; (try dsimp only at hSw); go_simp; (try (with_reducible rfl)))
  try simp only [Act.put]
  refine wpY_take (i := 17) (v := ?_) [[18], [19], [20], [21]] rfl (by kernel_rfl) (by kernel_rfl) (by kernel_rfl) (by kernel_rfl) (fun _ _ _ h => h) (Or.inl ⟨by rfl, ?_⟩) (by assumption) ?_
  rotate_left
  · (intro wS hSw; (try dsimp only at hSw); go_simp; (try (with_reducible rfl)))
  try simp only [Act.put]
  refine wpY_one (i := 12) (by kernel_rfl) rfl (fun K hK => ?_)
  go_simp
  have H12 := Lib.hid (top_blk V #[.int .u64 va] 38)
  have HB := Lib.hid (HB.out.alloc HB.out.size (.cells #[.int .u64 va] 38))
  have HG := Lib.hid (grown_alloc HG.out (.cells #[.int .u64 va] 38))
  refine letK ?_
  intro V hV
  rw [← hV] at H12 HB HG
  clear hV
  refine hK.out _ _ (.inr (HSK.out _ HG.out)) ?_
  clear hK K
  try simp only [Act.put, List.setIfInBounds_toArray, List.set_cons_zero, List.set_cons_succ]
  refine wpY_one (i := 13) (by kernel_rfl) rfl (fun K hK => ?_)
  obtain ⟨v1, V', hrun, hr2, hg2, hn2⟩ := HKI.out V HB.out _ H12.out
  obtain ⟨Ak, lk, ck, rfl⟩ := rw_slice hr2
  refine step_run rfl (.tmp 46) (.tmp 54) 51 51 rfl _ _ (by rfl) (by rfl) _ _ hrun ?_
  clear hrun
  have HG := Lib.hid (HG.out.trans hg2)
  have HR13 := Lib.hid hr2
  have HN13 := Lib.hid hn2
  clear hr2 hg2 hn2 HB H12
  refine letK ?_
  intro V hV
  rw [← hV] at HR13 HG
  clear hV
  refine hK.out _ _ (.inr (HSK.out _ HG.out)) ?_
  clear hK K
  try simp only [Act.put, List.setIfInBounds_toArray]
  refine wpY_one (i := 18) (by kernel_rfl) rfl (fun K hK => ?_)
  obtain ⟨v2, V', hrun, hr3, hg3, hn3⟩ := row_appU HR13.out (HYR.out V HG.out) rfl HLL.out
  obtain ⟨Av, lv, cv, rfl⟩ := rw_slice hr3
  refine step_run rfl (.tmp 55) (.tmp 59) 51 51 rfl _ _ (by rfl) (by rfl) _ _ hrun ?_
  clear hrun
  have HN18 := Lib.hid (nw_trans HN13.out hn3 HG.out.size)
  have HG := Lib.hid (grown_nw HG.out hg3 HN13.out)
  have HR18 := Lib.hid hr3
  clear hr3 hg3 hn3 HR13 HN13
  refine letK ?_
  intro V hV
  rw [← hV] at HR18 HG
  clear hV
  obtain ⟨f0, f1, f2, f3⟩ := HXN.out.hold HG.out HXN.out.nek.2.1
  have f31 := f3 1
  clear f3
  refine hK.out _ _ (.inl (by decide)) ?_
  clear hK K
  try simp only [Act.put]
  refine wpY_one (i := 19) (by kernel_rfl) rfl (fun K hK => ?_)
  go_simp
  refine hK.out _ _ (.inl (by decide)) ?_
  clear hK K
  try simp only [Act.put, List.setIfInBounds_toArray, List.set_cons_zero, List.set_cons_succ]
  refine wpY_one (i := 20) (by kernel_rfl) rfl (fun K hK => ?_)
  go_simp
  refine hK.out _ _ (.inl (by decide)) ?_
  clear hK K
  try simp only [Act.put, List.setIfInBounds_toArray, List.set_cons_zero, List.set_cons_succ]
  refine wpY_one (i := 21) (by kernel_rfl) rfl (fun K hK => ?_)
  go_simp
  refine hK.out _ _ (.inl (by decide)) ?_
  clear hK K
  try simp only [Act.put, List.setIfInBounds_toArray, List.set_cons_zero, List.set_cons_succ]
  refine wpY_done (by kernel_rfl) ?_ _
  apply hQ
  obtain ⟨hX5, hU5⟩ := HXN.out.sv (mid_plain HS.out.up.fb (Below.refl _ _) HG.out HN18.out) HR18.out
  exact ⟨_, Lib.hid (HS.out.stepX HF.out hax hxy hX5 hU5)⟩
noncomputable def jn_3_code : Code := ((Try.f108.body.bind (findRg 3)).getD .skip)
set_option maxRecDepth 1000000 in
set_option maxHeartbeats 8000000 in
theorem jn_3 (a x y : Nat) (w : World) (o : Nat → Nat) (FA FX FY : Nf Ky) (HF : Hid (Fb o w)) (hax : a ≠ x) (_hay : a ≠ y) (hxy : x ≠ y) (hlx : FX.cs.length ≤ 1001) (hly : FY.cs.length ≤ 1001) (wc : World) (oc : Nat → Nat) (HS : Hid (Th w o a x y FA FX FY wc oc)) {Q : Exit → Act → World → Prop} (t0 t1 t2 t3 t6 t7 t8 t9 t10 t11 t12 t13 t14 t15 t16 t17 t18 t19 t20 t21 t22 t23 t24 t25 t26 t27 t28 t29 t30 t31 t32 t33 t34 t35 t36 t37 t38 t39 t40 t41 t42 t43 t44 t45 t46 t47 t48 t49 t50 t51 t52 t53 t54 t55 t56 t57 t58 t59 t60 t61 t62 t63 t64 t65 t66 t67 t68 t69 t70 t71 t72 t73 t74 t75 t76 t77 t78 t79 t80 t81 t82 t83 t84 t85 t86 t87 t88 t89 t90 t91 t92 t93 t94 t95 t96 t97 t98 t99 t100 t101 t102 t103 t104 t105 t106 t107 t108 : Value) (hQ : ∀ (u63 u64 u65 u66 u67 u68 u69 u70 u71 u72 u73 u74 : Value) (w' : World), (∃ oc3, Hid (Th w o a x y FA ⟨FX.ks, FX.vs, FX.cs ++ FY.cs⟩ FY w' oc3)) → Q .normal ⟨(t0 :: t1 :: t2 :: t3 :: .pointer (some ⟨x, 0, none⟩) :: .pointer (some ⟨y, 0, none⟩) :: t6 :: t7 :: t8 :: t9 :: t10 :: t11 :: t12 :: t13 :: t14 :: t15 :: t16 :: t17 :: t18 :: t19 :: t20 :: t21 :: t22 :: t23 :: t24 :: t25 :: t26 :: t27 :: t28 :: t29 :: t30 :: t31 :: t32 :: t33 :: t34 :: t35 :: t36 :: t37 :: t38 :: t39 :: t40 :: t41 :: t42 :: t43 :: t44 :: t45 :: t46 :: t47 :: t48 :: t49 :: t50 :: t51 :: t52 :: t53 :: t54 :: t55 :: t56 :: t57 :: t58 :: t59 :: t60 :: t61 :: t62 :: u63 :: u64 :: u65 :: u66 :: u67 :: u68 :: u69 :: u70 :: u71 :: u72 :: u73 :: u74 :: t75 :: t76 :: t77 :: t78 :: t79 :: t80 :: t81 :: t82 :: t83 :: t84 :: t85 :: t86 :: t87 :: t88 :: t89 :: t90 :: t91 :: t92 :: t93 :: t94 :: t95 :: t96 :: t97 :: t98 :: t99 :: t100 :: t101 :: t102 :: t103 :: t104 :: t105 :: t106 :: t107 :: t108 :: []).toArray, []⟩ w') :
    Code.wp Try.prog jn_3_code Q ⟨(t0 :: t1 :: t2 :: t3 :: .pointer (some ⟨x, 0, none⟩) :: .pointer (some ⟨y, 0, none⟩) :: t6 :: t7 :: t8 :: t9 :: t10 :: t11 :: t12 :: t13 :: t14 :: t15 :: t16 :: t17 :: t18 :: t19 :: t20 :: t21 :: t22 :: t23 :: t24 :: t25 :: t26 :: t27 :: t28 :: t29 :: t30 :: t31 :: t32 :: t33 :: t34 :: t35 :: t36 :: t37 :: t38 :: t39 :: t40 :: t41 :: t42 :: t43 :: t44 :: t45 :: t46 :: t47 :: t48 :: t49 :: t50 :: t51 :: t52 :: t53 :: t54 :: t55 :: t56 :: t57 :: t58 :: t59 :: t60 :: t61 :: t62 :: t63 :: t64 :: t65 :: t66 :: t67 :: t68 :: t69 :: t70 :: t71 :: t72 :: t73 :: t74 :: t75 :: t76 :: t77 :: t78 :: t79 :: t80 :: t81 :: t82 :: t83 :: t84 :: t85 :: t86 :: t87 :: t88 :: t89 :: t90 :: t91 :: t92 :: t93 :: t94 :: t95 :: t96 :: t97 :: t98 :: t99 :: t100 :: t101 :: t102 :: t103 :: t104 :: t105 :: t106 :: t107 :: t108 :: []).toArray, []⟩ wc := by
  refine wp_onN ?_
  conv => arg 2; whnf
  obtain ⟨xk, xv, xc, hX⟩ := HS.out.nx
  obtain ⟨yk, yv, yc, hY⟩ := HS.out.ny
  obtain ⟨E1, e1, E2, e2, E3, e3, rfl, rfl, rfl, -⟩ := hX.row
  obtain ⟨G1, g1, G2, g2, G3, g3, rfl, rfl, rfl, -⟩ := hY.row
  have HYN := Lib.hid (fun V (hg : wc.grownBy V (Value.slice E3 FX.cs.length e3).ownBlock) => hX.apart hY hxy (fun g e _ => hX.tc g e) hg)
  have HSK := Lib.hid (fun V (hg : wc.grownBy V (Value.slice E3 FX.cs.length e3).ownBlock) => And.intro (hX.hold hg hX.nek.2.2).2.2.1 (HYN.out V hg).cells.2.2)
  have HAP := Lib.hid (show ∀ V, Below wc.heap.size wc V → ∃ v' w2, (Builtin.append_ #[104, 104] 104 #[.slice E3 FX.cs.length e3, .slice G3 FY.cs.length g3]).run Try.prog V = .ok v' w2 ∧ Rw w2 100 v' (csR (FX.cs ++ FY.cs)) ∧ V.grownBy w2 (Value.slice E3 FX.cs.length e3).ownBlock ∧ Nw wc (.slice E3 FX.cs.length e3) v' from fun V hb => by
    obtain ⟨v', w2, h1, h2, h3, h4⟩ := row_appM (V := V) (hX.rc.keep fun g _ hl => hb.block g hl) (hY.rc.keep fun g _ hl => hb.block g hl) rfl (by omega)
    exact ⟨v', w2, h1, h2, h3, nw_back h4 hb.size⟩)
  have HXN := Lib.hid hX
  clear hX hY
  refine wp_region_Y1 (by kernel_rfl) ?_
  intro V hV
  refine wpY_take (i := 0) (v := ?_) [] rfl (by kernel_rfl) (by kernel_rfl) (by kernel_rfl) (by kernel_rfl) (fun _ _ _ h => h) (Or.inl ⟨by rfl, ?_⟩) trivial ?_
  rotate_left
  · (intro wS hSw; (try dsimp only at hSw); go_simp; (try (with_reducible rfl)))
  try simp only [Act.put, List.setIfInBounds_toArray]
  refine wpY_take (i := 1) (v := ?_) [] rfl (by kernel_rfl) (by kernel_rfl) (by kernel_rfl) (by kernel_rfl) (fun _ _ _ h => h) (Or.inl ⟨by rfl, ?_⟩) trivial ?_
  rotate_left
  · (intro wS hSw; (try dsimp only at hSw); go_simp; (try (with_reducible rfl)))
  try simp only [Act.put]
  refine wpY_take (i := 2) (v := ?_) [] rfl (by kernel_rfl) (by kernel_rfl) (by kernel_rfl) (by kernel_rfl) (fun _ _ _ h => h) (Or.inl ⟨by rfl, ?_⟩) trivial ?_
  rotate_left
  · (intro wS hSw; (try dsimp only at hSw); go_simp; (try (with_reducible rfl)))
  try simp only [Act.put]
  refine wpY_take (i := 3) (v := ?_) [] rfl (by kernel_rfl) (by kernel_rfl) (by kernel_rfl) (by kernel_rfl) (fun _ _ _ h => h) (Or.inl ⟨by rfl, ?_⟩) trivial ?_
  rotate_left
  · (intro wS hSw; (try dsimp only at hSw); go_simp; (try (with_reducible rfl)))
  try simp only [Act.put]
  refine wpY_take (i := 5) (v := ?_) [] rfl (by kernel_rfl) (by kernel_rfl) (by kernel_rfl) (by kernel_rfl) (fun _ _ _ h => h) (Or.inl ⟨by rfl, ?_⟩) trivial ?_
  rotate_left
  · (intro wS hSw; (try dsimp only at hSw); go_simp; (try (with_reducible rfl)))
  try simp only [Act.put]
  refine wpY_take (i := 6) (v := ?_) [] rfl (by kernel_rfl) (by kernel_rfl) (by kernel_rfl) (by kernel_rfl) (fun _ _ _ h => h) (Or.inl ⟨by rfl, ?_⟩) trivial ?_
  rotate_left
  · (intro wS hSw; (try dsimp only at hSw); go_simp; (try (with_reducible rfl)))
  try simp only [Act.put]
  refine wpY_take (i := 7) (v := ?_) [] rfl (by kernel_rfl) (by kernel_rfl) (by kernel_rfl) (by kernel_rfl) (fun _ _ _ h => h) (Or.inl ⟨by rfl, ?_⟩) trivial ?_
  rotate_left
  · (intro wS hSw; (try dsimp only at hSw); go_simp; (try (with_reducible rfl)))
  try simp only [Act.put]
  have HG := Lib.hid (show wc.grownBy V (Value.slice E3 FX.cs.length e3).ownBlock from by rw [hV]; exact below_grown (Below.refl _ _).drew _)
  have HB := Lib.hid (show Below wc.heap.size wc V from by rw [hV]; exact (Below.refl _ _).drew)
  clear hV
  have hS0 := HSK.out V HG.out
  refine wpY_swap ((fun W' => W'.cell? ⟨x, 2, none⟩ = some (.slice E3 FX.cs.length e3) ∧ W'.cell? ⟨y, 2, none⟩ = some (.slice G3 FY.cs.length g3))) [10, 11, 12] ?_
  refine wpY_take (i := 4) (v := ?_) [[10], [11], [12]] rfl (by kernel_rfl) (by kernel_rfl) (by kernel_rfl) (by kernel_rfl) (fun _ _ _ h => h) (Or.inl ⟨by rfl, ?_⟩) (by assumption) ?_
  rotate_left
  · (intro wS hSw; (try dsimp only at hSw); go_simp; (try (with_reducible rfl)))
  try simp only [Act.put]
  refine wpY_take (i := 8) (v := ?_) [[10], [11], [12]] rfl (by kernel_rfl) (by kernel_rfl) (by kernel_rfl) (by kernel_rfl) (fun _ _ _ h => h) (Or.inl ⟨by rfl, ?_⟩) (by assumption) ?_
  rotate_left
  · (intro wS hSw; (try dsimp only at hSw); go_simp; (try (with_reducible rfl)))
  try simp only [Act.put]
  refine wpY_one (i := 9) (by kernel_rfl) rfl (fun K hK => ?_)
  obtain ⟨v2, V', hrun, hr3, hg3, hn3⟩ := HAP.out V HB.out
  obtain ⟨Av, lv, cv, rfl⟩ := rw_slice hr3
  refine step_run rfl (.tmp 67) (.tmp 71) 104 104 rfl _ _ (by simp [Act.eval]) (by simp [Act.eval]) _ _ hrun ?_
  clear hrun
  have HG := Lib.hid (HG.out.trans hg3)
  have HR18 := Lib.hid hr3
  have HN18 := Lib.hid hn3
  clear hr3 hg3 hn3
  refine letK ?_
  intro V hV
  rw [← hV] at HR18 HG
  clear hV
  obtain ⟨f0, f1, f2, f3⟩ := HXN.out.hold HG.out HXN.out.nek.2.2
  have f32 := f3 2
  clear f3
  refine hK.out _ _ (.inr (HSK.out _ HG.out)) ?_
  clear hK K
  try simp only [Act.put]
  refine wpY_one (i := 10) (by kernel_rfl) rfl (fun K hK => ?_)
  go_simp
  refine hK.out _ _ (.inl (by decide)) ?_
  clear hK K
  try simp only [Act.put, List.setIfInBounds_toArray, List.set_cons_zero, List.set_cons_succ]
  refine wpY_one (i := 11) (by kernel_rfl) rfl (fun K hK => ?_)
  go_simp
  refine hK.out _ _ (.inl (by decide)) ?_
  clear hK K
  try simp only [Act.put, List.setIfInBounds_toArray, List.set_cons_zero, List.set_cons_succ]
  refine wpY_one (i := 12) (by kernel_rfl) rfl (fun K hK => ?_)
  go_simp
  refine hK.out _ _ (.inl (by decide)) ?_
  clear hK K
  try simp only [Act.put, List.setIfInBounds_toArray, List.set_cons_zero, List.set_cons_succ]
  refine wpY_done (by kernel_rfl) ?_ _
  apply hQ
  obtain ⟨hX5, hU5⟩ := HXN.out.sc (mid_plain HS.out.up.fb (Below.refl _ _) HG.out HN18.out) HR18.out
  exact ⟨_, Lib.hid (HS.out.stepX HF.out hax hxy hX5 hU5)⟩
noncomputable def jn_4_code : Code := ((Try.f108.body.bind (findRg 4)).getD .skip)
set_option maxRecDepth 1000000 in
set_option maxHeartbeats 8000000 in
theorem jn_4 (a x y i : Nat) (w : World) (o : Nat → Nat) (FA FX FY : Nf Ky) (HF : Hid (Fb o w)) (hax : a ≠ x) (hay : a ≠ y) (_hxy : x ≠ y) (l1 : i < FA.ks.length) (l2 : FA.ks.length ≤ 1000) (l3 : i < FA.vs.length) (l4 : FA.vs.length ≤ 1000) (wc : World) (oc : Nat → Nat) (HS : Hid (Th w o a x y FA FX FY wc oc)) {Q : Exit → Act → World → Prop} (t2 t3 t4 t5 t6 t7 t8 t9 t10 t11 t12 t13 t14 t15 t16 t17 t18 t19 t20 t21 t22 t23 t24 t25 t26 t27 t28 t29 t30 t31 t32 t33 t34 t35 t36 t37 t38 t39 t40 t41 t42 t43 t44 t45 t46 t47 t48 t49 t50 t51 t52 t53 t54 t55 t56 t57 t58 t59 t60 t61 t62 t63 t64 t65 t66 t67 t68 t69 t70 t71 t72 t73 t74 t75 t76 t77 t78 t79 t80 t81 t82 t83 t84 t85 t86 t87 t88 t89 t90 t91 t92 t93 t94 t95 t96 t97 t98 t99 t100 t101 t102 t103 t104 t105 t106 t107 t108 : Value) (hQ : ∀ (u75 u76 u77 u78 u79 u80 u81 u82 u83 u84 u85 u86 u87 u88 u89 u90 u91 u92 u93 u94 u95 u96 : Value) (w' : World), (∃ oc4, Hid (Th w o a x y ⟨FA.ks.take i ++ FA.ks.drop (i + 1), FA.vs.take i ++ FA.vs.drop (i + 1), FA.cs⟩ FX FY w' oc4)) → Q .normal ⟨(.pointer (some ⟨a, 0, none⟩) :: .int .i64 i :: t2 :: t3 :: t4 :: t5 :: t6 :: t7 :: t8 :: t9 :: t10 :: t11 :: t12 :: t13 :: t14 :: t15 :: t16 :: t17 :: t18 :: t19 :: t20 :: t21 :: t22 :: t23 :: t24 :: t25 :: t26 :: t27 :: t28 :: t29 :: t30 :: t31 :: t32 :: t33 :: t34 :: t35 :: t36 :: t37 :: t38 :: t39 :: t40 :: t41 :: t42 :: t43 :: t44 :: t45 :: t46 :: t47 :: t48 :: t49 :: t50 :: t51 :: t52 :: t53 :: t54 :: t55 :: t56 :: t57 :: t58 :: t59 :: t60 :: t61 :: t62 :: t63 :: t64 :: t65 :: t66 :: t67 :: t68 :: t69 :: t70 :: t71 :: t72 :: t73 :: t74 :: u75 :: u76 :: u77 :: u78 :: u79 :: u80 :: u81 :: u82 :: u83 :: u84 :: u85 :: u86 :: u87 :: u88 :: u89 :: u90 :: u91 :: u92 :: u93 :: u94 :: u95 :: u96 :: t97 :: t98 :: t99 :: t100 :: t101 :: t102 :: t103 :: t104 :: t105 :: t106 :: t107 :: t108 :: []).toArray, []⟩ w') :
    Code.wp Try.prog jn_4_code Q ⟨(.pointer (some ⟨a, 0, none⟩) :: .int .i64 i :: t2 :: t3 :: t4 :: t5 :: t6 :: t7 :: t8 :: t9 :: t10 :: t11 :: t12 :: t13 :: t14 :: t15 :: t16 :: t17 :: t18 :: t19 :: t20 :: t21 :: t22 :: t23 :: t24 :: t25 :: t26 :: t27 :: t28 :: t29 :: t30 :: t31 :: t32 :: t33 :: t34 :: t35 :: t36 :: t37 :: t38 :: t39 :: t40 :: t41 :: t42 :: t43 :: t44 :: t45 :: t46 :: t47 :: t48 :: t49 :: t50 :: t51 :: t52 :: t53 :: t54 :: t55 :: t56 :: t57 :: t58 :: t59 :: t60 :: t61 :: t62 :: t63 :: t64 :: t65 :: t66 :: t67 :: t68 :: t69 :: t70 :: t71 :: t72 :: t73 :: t74 :: t75 :: t76 :: t77 :: t78 :: t79 :: t80 :: t81 :: t82 :: t83 :: t84 :: t85 :: t86 :: t87 :: t88 :: t89 :: t90 :: t91 :: t92 :: t93 :: t94 :: t95 :: t96 :: t97 :: t98 :: t99 :: t100 :: t101 :: t102 :: t103 :: t104 :: t105 :: t106 :: t107 :: t108 :: []).toArray, []⟩ wc := by
  refine wp_onN ?_
  conv => arg 2; whnf
  obtain ⟨yk, yv, yc, hY⟩ := HS.out.na
  obtain ⟨E1, e1, E2, e2, E3, e3, rfl, rfl, rfl, -⟩ := hY.row
  have hw1 : IntKind.i64.wrap ((i : Int) + 1) = (i : Int) + 1 := by rw [IntKind.wrap_i64]; omega
  have HKI := Lib.hid (fun V hb => key_delW hY (V := V) (by omega) i (by omega) (i : Int) ((i : Int) + 1) rfl rfl (FA.ks.take i ++ FA.ks.drop (i + 1)) rfl hb)
  have HVI := Lib.hid (fun V hb => val_delW hY (V := V) (by omega) i (by omega) (i : Int) ((i : Int) + 1) rfl rfl (FA.vs.take i ++ FA.vs.drop (i + 1)) rfl hb)
  have HSK := Lib.hid (fun V (hg : Gr2 wc V (.slice E1 FA.ks.length e1) (.slice E2 FA.vs.length e2)) => And.intro (hY.own2 hg).1 (hY.own2 hg).2.1)
  have HYV := Lib.hid (fun V (hg : wc.grownBy V (Value.slice E1 FA.ks.length e1).ownBlock) => rw_apart hY.rv hY.rk hg (by decide))
  have HOK := Lib.hid (show ∀ k ∈ FA.ks.take i ++ FA.ks.drop (i + 1), KOk wc oc k from fun k hk => by
    rcases List.mem_append.1 hk with hk | hk
    · exact hY.ok k (List.mem_of_mem_take hk)
    · exact hY.ok k (List.mem_of_mem_drop hk))
  have HYN := Lib.hid hY
  clear hY
  refine wp_region_Y1 (by kernel_rfl) ?_
  intro V hV
  refine wpY_take (i := 0) (v := ?_) [] rfl (by kernel_rfl) (by kernel_rfl) (by kernel_rfl) (by kernel_rfl) (fun _ _ _ h => h) (Or.inl ⟨by rfl, ?_⟩) trivial ?_
  rotate_left
  · (intro wS hSw; (try dsimp only at hSw); go_simp; (try (with_reducible rfl)))
  try simp only [Act.put, List.setIfInBounds_toArray]
  refine wpY_take (i := 1) (v := ?_) [] rfl (by kernel_rfl) (by kernel_rfl) (by kernel_rfl) (by kernel_rfl) (fun _ _ _ h => h) (Or.inl ⟨by rfl, ?_⟩) trivial ?_
  rotate_left
  · (intro wS hSw; (try dsimp only at hSw); go_simp; (try (with_reducible rfl)))
  try simp only [Act.put]
  refine wpY_take (i := 2) (v := ?_) [] rfl (by kernel_rfl) (by kernel_rfl) (by kernel_rfl) (by kernel_rfl) (fun _ _ _ h => h) (Or.inl ⟨by rfl, ?_⟩) trivial ?_
  rotate_left
  · (intro wS hSw; (try dsimp only at hSw); go_simp; (try (with_reducible rfl)))
  try simp only [Act.put]
  refine wpY_take (i := 3) (v := ?_) [] rfl (by kernel_rfl) (by kernel_rfl) (by kernel_rfl) (by kernel_rfl) (fun _ _ _ h => h) (Or.inl ⟨by rfl, ?_⟩) trivial ?_
  rotate_left
  · (intro wS hSw; (try dsimp only at hSw); go_simp; (try (with_reducible rfl)))
  try simp only [Act.put]
  refine wpY_take (i := 4) (v := ?_) [] rfl (by kernel_rfl) (by kernel_rfl) (by kernel_rfl) (by kernel_rfl) (fun _ _ _ h => h) (Or.inl ⟨by rfl, ?_⟩) trivial ?_
  rotate_left
  · (intro wS hSw; (try dsimp only at hSw); go_simp; (try (with_reducible rfl)))
  try simp only [Act.put]
  refine wpY_take (i := 6) (v := ?_) [] rfl (by kernel_rfl) (by kernel_rfl) (by kernel_rfl) (by kernel_rfl) (fun _ _ _ h => h) (Or.inl ⟨by rfl, ?_⟩) trivial ?_
  rotate_left
  · (intro wS hSw; (try dsimp only at hSw); go_simp; (try (with_reducible rfl)))
  try simp only [Act.put]
  refine wpY_take (i := 7) (v := ?_) [] rfl (by kernel_rfl) (by kernel_rfl) (by kernel_rfl) (by kernel_rfl) (fun _ _ _ h => h) (Or.inl ⟨by rfl, ?_⟩) trivial ?_
  rotate_left
  · (intro wS hSw; (try dsimp only at hSw); go_simp; (try (with_reducible rfl)))
  try simp only [Act.put]
  refine wpY_take (i := 8) (v := ?_) [] rfl (by kernel_rfl) (by kernel_rfl) (by kernel_rfl) (by kernel_rfl) (fun _ _ _ h => h) (Or.inl ⟨by rfl, ?_⟩) trivial ?_
  rotate_left
  · (intro wS hSw; (try dsimp only at hSw); go_simp; (try (with_reducible rfl)))
  try simp only [Act.put]
  refine wpY_take (i := 10) (v := ?_) [] rfl (by kernel_rfl) (by kernel_rfl) (by kernel_rfl) (by kernel_rfl) (fun _ _ _ h => h) (Or.inl ⟨by rfl, ?_⟩) trivial ?_
  rotate_left
  · (intro wS hSw; (try dsimp only at hSw); go_simp; (try (with_reducible rfl)))
  try simp only [Act.put]
  refine wpY_take (i := 11) (v := ?_) [] rfl (by kernel_rfl) (by kernel_rfl) (by kernel_rfl) (by kernel_rfl) (fun _ _ _ h => h) (Or.inl ⟨by rfl, ?_⟩) trivial ?_
  rotate_left
  · (intro wS hSw; (try dsimp only at hSw); go_simp; (try (with_reducible rfl)))
  try simp only [Act.put]
  refine wpY_take (i := 12) (v := ?_) [] rfl (by kernel_rfl) (by kernel_rfl) (by kernel_rfl) (by kernel_rfl) (fun _ _ _ h => h) (Or.inl ⟨by rfl, ?_⟩) trivial ?_
  rotate_left
  · (intro wS hSw; (try dsimp only at hSw); go_simp; (try (with_reducible rfl)))
  try simp only [Act.put]
  refine wpY_take (i := 14) (v := ?_) [] rfl (by kernel_rfl) (by kernel_rfl) (by kernel_rfl) (by kernel_rfl) (fun _ _ _ h => h) (Or.inl ⟨by rfl, ?_⟩) trivial ?_
  rotate_left
  · (intro wS hSw; (try dsimp only at hSw); go_simp; (try (with_reducible rfl)))
  try simp only [Act.put]
  refine wpY_take (i := 15) (v := ?_) [] rfl (by kernel_rfl) (by kernel_rfl) (by kernel_rfl) (by kernel_rfl) (fun _ _ _ h => h) (Or.inl ⟨by rfl, ?_⟩) trivial ?_
  rotate_left
  · (intro wS hSw; (try dsimp only at hSw); go_simp; (try (with_reducible rfl)))
  try simp only [Act.put]
  refine wpY_take (i := 16) (v := ?_) [] rfl (by kernel_rfl) (by kernel_rfl) (by kernel_rfl) (by kernel_rfl) (fun _ _ _ h => h) (Or.inl ⟨by rfl, ?_⟩) trivial ?_
  rotate_left
  · (intro wS hSw; (try dsimp only at hSw); go_simp; (try (with_reducible rfl)))
  try simp only [Act.put]
  have HB := Lib.hid (show Below wc.heap.size wc V from by rw [hV]; exact (Below.refl _ _).drew)
  clear hV
  have HG := Lib.hid (show Gr2 wc V (.slice E1 FA.ks.length e1) (.slice E2 FA.vs.length e2) from Gr2.below HB.out)
  have HG1 := Lib.hid (show wc.grownBy V (Value.slice E1 FA.ks.length e1).ownBlock from below_grown HB.out _)
  have hS0 := HSK.out V HG.out
  refine wpY_swap ((fun W' => W'.cell? ⟨a, 0, none⟩ = some (.slice E1 FA.ks.length e1) ∧ W'.cell? ⟨a, 1, none⟩ = some (.slice E2 FA.vs.length e2))) [18, 19, 20, 21, 22, 23] ?_
  refine wpY_take (i := 5) (v := ?_) [[18], [19], [20], [21], [22], [23]] rfl (by kernel_rfl) (by kernel_rfl) (by kernel_rfl) (by kernel_rfl) (fun _ _ _ h => h) (Or.inl ⟨by rfl, ?_⟩) (by assumption) ?_
  rotate_left
  · (intro wS hSw; (try dsimp only at hSw); go_simp; (try (with_reducible rfl)))
  try simp only [Act.put]
  refine wpY_take (i := 13) (v := ?_) [[18], [19], [20], [21], [22], [23]] rfl (by kernel_rfl) (by kernel_rfl) (by kernel_rfl) (by kernel_rfl) (fun _ _ _ h => h) (Or.inl ⟨by rfl, ?_⟩) (by assumption) ?_
  rotate_left
  · (intro wS hSw; (try dsimp only at hSw); go_simp; (try (with_reducible rfl)))
  try simp only [Act.put]
  refine wpY_one (i := 9) (by kernel_rfl) rfl (fun K hK => ?_)
  go_simp
  refine (HKI.out V HB.out).mono ?_
  rintro e V ⟨vk', rfl, hr2, hg2, hn2⟩
  obtain ⟨Ak, lk, ck, rfl⟩ := rw_slice hr2
  have HR14 := Lib.hid hr2
  have HN14 := Lib.hid hn2
  have HG := Lib.hid (HG.out.grownL hg2)
  have HG1 := Lib.hid (HG1.out.trans hg2)
  clear hr2 hg2 hn2 HB
  refine hK.out _ _ (.inr (HSK.out _ HG.out)) ?_
  clear hK K
  try simp only [Act.put, List.setIfInBounds_toArray, List.set_cons_zero, List.set_cons_succ]
  refine wpY_one (i := 17) (by kernel_rfl) rfl (fun K hK => ?_)
  go_simp
  refine (HVI.out V HG1.out).mono ?_
  rintro e V ⟨vv', rfl, hr3, hg3, hn3⟩
  obtain ⟨Av, lv, cv, rfl⟩ := rw_slice hr3
  have HR27 := Lib.hid hr3
  have HN27 := Lib.hid hn3
  have HR14 := Lib.hid (rw_apart HR14.out (HYV.out _ HG1.out) hg3 (by decide))
  have HG := Lib.hid (HG.out.grownR hg3)
  clear hr3 hg3 hn3 HG1
  obtain ⟨f0, f1, -, f3⟩ := HYN.out.own2 HG.out
  have f30 := f3 0
  have f31 := f3 1
  clear f3
  refine hK.out _ _ (.inr (HSK.out _ HG.out)) ?_
  clear hK K
  try simp only [Act.put, List.setIfInBounds_toArray, List.set_cons_zero, List.set_cons_succ]
  refine wpY_one (i := 18) (by kernel_rfl) rfl (fun K hK => ?_)
  go_simp
  refine hK.out _ _ (.inl (by decide)) ?_
  clear hK K
  try simp only [Act.put, List.setIfInBounds_toArray, List.set_cons_zero, List.set_cons_succ]
  refine wpY_one (i := 19) (by kernel_rfl) rfl (fun K hK => ?_)
  go_simp
  refine hK.out _ _ (.inl (by decide)) ?_
  clear hK K
  try simp only [Act.put, List.setIfInBounds_toArray, List.set_cons_zero, List.set_cons_succ]
  refine wpY_one (i := 20) (by kernel_rfl) rfl (fun K hK => ?_)
  go_simp
  refine hK.out _ _ (.inl (by decide)) ?_
  clear hK K
  try simp only [Act.put, List.setIfInBounds_toArray, List.set_cons_zero, List.set_cons_succ]
  refine wpY_one (i := 21) (by kernel_rfl) rfl (fun K hK => ?_)
  go_simp
  refine hK.out _ _ (.inl (by decide)) ?_
  clear hK K
  try simp only [Act.put, List.setIfInBounds_toArray, List.set_cons_zero, List.set_cons_succ]
  refine wpY_one (i := 22) (by kernel_rfl) rfl (fun K hK => ?_)
  go_simp
  refine hK.out _ _ (.inl (by decide)) ?_
  clear hK K
  try simp only [Act.put, List.setIfInBounds_toArray, List.set_cons_zero, List.set_cons_succ]
  refine wpY_one (i := 23) (by kernel_rfl) rfl (fun K hK => ?_)
  go_simp
  refine hK.out _ _ (.inl (by decide)) ?_
  clear hK K
  try simp only [Act.put, List.setIfInBounds_toArray, List.set_cons_zero, List.set_cons_succ]
  refine wpY_done (by kernel_rfl) ?_ _
  apply hQ
  obtain ⟨hY5, hU5⟩ := NdAt.skv HS.out.up.fb HYN.out HG.out HR14.out HR27.out HN14.out HN27.out HOK.out
  exact ⟨_, Lib.hid (HS.out.stepA HF.out hax hay hY5 hU5)⟩
set_option maxRecDepth 100000 in
set_option maxHeartbeats 8000000 in
theorem join_any (a x y i : Nat) (w : World) (o : Nat → Nat) (FA FX FY : Nf Ky) (hf : Fb o w) (ha : NdE w o a FA) (hx : NdE w o x FX) (hy : NdE w o y FY) (hax : a ≠ x) (hay : a ≠ y) (hxy : x ≠ y)
    (hix : FA.cs[i]? = some x) (hiy : FA.cs[i + 1]? = some y) (hla : FA.cs.length ≤ 1000) (hka1 : FA.ks.length ≤ 1000) (hva1 : FA.vs.length ≤ 1000) (hlx : FX.ks.length ≤ 500) (hlxv : FX.vs.length ≤ 500) (hlxc : FX.cs.length ≤ 501) (hly : FY.ks.length ≤ 500) (hlyv : FY.vs.length ≤ 500) (hlyc : FY.cs.length ≤ 501) (ka : Ky) (va : Int) (hka : FA.ks[i]? = some ka) (hva : FA.vs[i]? = some va) :
    Calls Try.prog 108 #[nv a, .int .i64 i] w (JoinP w o a x y FA FX FY i ka va) := by
  have HT := Lib.hid (Th.start hf ha hx hy)
  obtain ⟨ak, av, ac, hA⟩ := ha
  obtain ⟨-, -, ca2⟩ := hA.cells
  obtain ⟨A1, c1, A2, c2, A3, c3, rfl, rfl, rfl, -, -, -⟩ := hA.row
  have hil : i < FA.cs.length := (List.getElem?_eq_some_iff.1 hix).1
  have hil2 : i + 1 < FA.cs.length := (List.getElem?_eq_some_iff.1 hiy).1
  have hil3 : i < FA.ks.length := (List.getElem?_eq_some_iff.1 hka).1
  have hil4 : i < FA.vs.length := (List.getElem?_eq_some_iff.1 hva).1
  obtain ⟨gc, rfl, hc1, -⟩ := hA.ccell hil
  obtain ⟨gc', e0, hc2, -⟩ := hA.ccell hil2
  cases e0
  rw [List.getElem?_eq_getElem hil, Option.some.injEq] at hix
  rw [List.getElem?_eq_getElem hil2, Option.some.injEq] at hiy
  rw [hix] at hc1
  rw [hiy] at hc2
  have hi1 : (i : Int) < (FA.cs.length : Int) := by omega
  have hi2 : (i : Int) + 1 < (FA.cs.length : Int) := by omega
  have hw1 : IntKind.i64.wrap ((i : Int) + 1) = (i : Int) + 1 := by rw [IntKind.wrap_i64]; omega
  have hw2 : (0 : Int) ≤ (i : Int) + 1 := by omega
  have hw8 : ((i : Int) + 1).toNat = i + 1 := by omega
  have HF := Lib.hid hf
  clear hA hix hiy hf hx hy
  unfold nv at *
  go_enter Try.func108, Try.ntmps108
  go_wp2_with fail
  go_quiet (fail)
  go_wp2_with fail
  obtain ⟨wc, hwc⟩ : ∃ wc, wc = w.drewN nq := ⟨_, rfl⟩
  rw [← hwc]
  have HS := Lib.hid (show Th w o a x y FA FX FY wc o from by rw [hwc]; exact HT.out.drewN nq)
  clear hwc ca2 hc1 hc2 HT hw2 hw8 hi1 hi2
  go_cut [] (fun wc3 => ∃ oc3, Hid (Th w o a x y FA ⟨FX.ks ++ [ka] ++ FY.ks, FX.vs, FX.cs⟩ FY wc3 oc3))
  case first =>
    refine jn_1 a x y i w o FA FX FY HF hax hay hxy (by omega) (by omega) ka va hka hva wc _ HS _ _ _ _ _ _ _ _ _ _ _ _ _ _ _ _ _ _ _ _ _ _ _ _ _ _ _ _ _ _ _ _ _ _ _ _ _ _ _ _ _ _ _ _ _ _ _ _ _ _ _ _ _ _ _ _ _ _ _ _ _ _ _ _ _ _ _ _ _ _ _ _ _ _ _ _ _ _ _ _ _ _ _ _ _ _ _ _ _ _ _ _ _ _ _ _ _ _ _ _ _ _ _ _ _ ?_
    intro _ _ _ _ _ _ _ _ _ _ _ _ _ _ _ _ _ _ _ _ _ w' hrel'
    go_wp2_with fail
    go_meet
    case rel => exact hrel'
  case rest =>
    clear HS
    obtain ⟨oc3, HS⟩ := hcut
    go_upto_region 2 with (fail)
    go_cut [] (fun wc3 => ∃ oc3, Hid (Th w o a x y FA ⟨FX.ks ++ [ka] ++ FY.ks, FX.vs ++ [va] ++ FY.vs, FX.cs⟩ FY wc3 oc3))
    case first =>
      refine jn_2 a x y i w o FA ⟨FX.ks ++ [ka] ++ FY.ks, FX.vs, FX.cs⟩ FY HF hax hay hxy (by show FX.vs.length ≤ _; omega) (by omega) ka va hka hva wc _ HS _ _ _ _ _ _ _ _ _ _ _ _ _ _ _ _ _ _ _ _ _ _ _ _ _ _ _ _ _ _ _ _ _ _ _ _ _ _ _ _ _ _ _ _ _ _ _ _ _ _ _ _ _ _ _ _ _ _ _ _ _ _ _ _ _ _ _ _ _ _ _ _ _ _ _ _ _ _ _ _ _ _ _ _ _ _ _ _ _ _ _ _ _ _ _ _ _ _ _ _ _ _ _ _ _ ?_
      intro _ _ _ _ _ _ _ _ _ _ _ _ _ _ _ _ _ _ _ _ _ w' hrel'
      go_wp2_with fail
      go_meet
      case rel => exact hrel'
    case rest =>
      clear HS
      obtain ⟨oc3, HS⟩ := hcut
      go_upto_region 3 with (fail)
      go_cut [] (fun wc3 => ∃ oc3, Hid (Th w o a x y FA ⟨FX.ks ++ [ka] ++ FY.ks, FX.vs ++ [va] ++ FY.vs, FX.cs ++ FY.cs⟩ FY wc3 oc3))
      case first =>
        refine jn_3 a x y w o FA ⟨FX.ks ++ [ka] ++ FY.ks, FX.vs ++ [va] ++ FY.vs, FX.cs⟩ FY HF hax hay hxy (by show FX.cs.length ≤ _; omega) (by omega) wc _ HS _ _ _ _ _ _ _ _ _ _ _ _ _ _ _ _ _ _ _ _ _ _ _ _ _ _ _ _ _ _ _ _ _ _ _ _ _ _ _ _ _ _ _ _ _ _ _ _ _ _ _ _ _ _ _ _ _ _ _ _ _ _ _ _ _ _ _ _ _ _ _ _ _ _ _ _ _ _ _ _ _ _ _ _ _ _ _ _ _ _ _ _ _ _ _ _ _ _ _ _ _ _ _ _ _ _ _ ?_
        intro _ _ _ _ _ _ _ _ _ _ _ _ w' hrel'
        go_wp2_with fail
        go_meet
        case rel => exact hrel'
      case rest =>
        clear HS
        obtain ⟨oc3, HS⟩ := hcut
        go_upto_region 4 with (fail)
        go_cut [] (fun wc3 => ∃ oc3, Hid (Th w o a x y ⟨FA.ks.take i ++ FA.ks.drop (i + 1), FA.vs.take i ++ FA.vs.drop (i + 1), FA.cs⟩ ⟨FX.ks ++ [ka] ++ FY.ks, FX.vs ++ [va] ++ FY.vs, FX.cs ++ FY.cs⟩ FY wc3 oc3))
        case first =>
          refine jn_4 a x y i w o FA _ FY HF hax hay hxy hil3 hka1 hil4 hva1 wc _ HS _ _ _ _ _ _ _ _ _ _ _ _ _ _ _ _ _ _ _ _ _ _ _ _ _ _ _ _ _ _ _ _ _ _ _ _ _ _ _ _ _ _ _ _ _ _ _ _ _ _ _ _ _ _ _ _ _ _ _ _ _ _ _ _ _ _ _ _ _ _ _ _ _ _ _ _ _ _ _ _ _ _ _ _ _ _ _ _ _ _ _ _ _ _ _ _ _ _ _ _ _ _ _ _ _ _ _ ?_
          intro _ _ _ _ _ _ _ _ _ _ _ _ _ _ _ _ _ _ _ _ _ _ w' hrel'
          go_wp2_with fail
          go_meet
          case rel => exact hrel'
        case rest =>
          clear HS
          obtain ⟨oc4, HS⟩ := hcut
          obtain ⟨xk, xv, xc, hX⟩ := HS.out.na
          obtain ⟨-, -, x2⟩ := hX.cells
          obtain ⟨B1, d1, B2, d2, B3, d3, rfl, rfl, rfl, -, -, -⟩ := hX.row
          have hw9 : IntKind.i64.wrap ((i : Int) + 2) = (i : Int) + 2 := by rw [IntKind.wrap_i64]; omega
          have HDL := Lib.hid (kid_delW hX (V := wc) (by show FA.cs.length ≤ _; omega) (i + 1) hil2 ((i : Int) + 1) ((i : Int) + 2) (by omega) (by omega) (FA.cs.take (i + 1) ++ FA.cs.drop (i + 1 + 1)) rfl (Below.refl _ _))
          have HX := Lib.hid hX
          clear hX
          go_wp2_with (go_at_call 115; refine HDL.out.mono ?_; rintro e w2 ⟨vc', rfl, hr2, hg2, hn2⟩; obtain ⟨Ac, lc, cc, rfl⟩ := rw_slice hr2; obtain ⟨f5, f6, f7, f8⟩ := HX.out.hold hg2 HX.out.nek.2.2; have f9 := f8 2)
          go_end0
          obtain ⟨hX6, hU6⟩ := HX.out.sc (mid_plain HS.out.up.fb (Below.refl _ _) hg2 hn2) hr2
          have hfin := HS.out.stepA HF.out hax hay hX6 hU6
          exact ⟨rfl, _, hfin⟩
end Go.Proofs.Ytfhonfeopkhdeaa.BC
