/-
  shift to the right: a key goes from the left child over the node to the right child. No premise.
-/
import Derived.Test.YtfhonfeopkhdeaaBtDkC
namespace Go.Proofs.Ytfhonfeopkhdeaa.BC
open Go.RowKit Go.Proofs.YtfhonfeopkhdeaaW.PrintWords

def ShiftRP (w : World) (o : Nat → Nat) (a x y : Nat) (FA FX FY : Nf Ky) (i : Nat) (ka ke : Ky) (va ve : Int) (e : Ending) (w' : World) : Prop :=
  e = .returned (.tuple #[]) ∧ ∃ o', Th w o a x y ⟨FA.ks.set i ke, FA.vs.set i ve, FA.cs⟩ ⟨FX.ks.take (FX.ks.length - 1), FX.vs.take (FX.ks.length - 1), FX.cs.take (FX.cs.length - 1)⟩ ⟨ka :: FY.ks, va :: FY.vs, FX.cs.drop (FX.cs.length - 1) ++ FY.cs⟩ w' o'
noncomputable def shR_3_code : Code := ((Try.f107.body.bind (findRg 3)).getD .skip)
set_option maxRecDepth 1000000 in
set_option maxHeartbeats 8000000 in
theorem shR_3 (a x y i : Nat) (w : World) (o : Nat → Nat) (FA FX FY : Nf Ky) (HF : Hid (Fb o w)) (_hax : a ≠ x) (hay : a ≠ y) (hxy : x ≠ y) (hly : FY.ks.length ≤ 1000) (hlyv : FY.vs.length ≤ 1000) (ka : Ky) (va : Int) (hka : FA.ks[i]? = some ka) (hva : FA.vs[i]? = some va) (wc : World) (oc : Nat → Nat) (HS : Hid (Th w o a x y FA FX FY wc oc)) {Q : Exit → Act → World → Prop} (t2 t3 t4 t5 t8 t9 t10 t11 t12 t13 t14 t15 t16 t17 t18 t19 t20 t21 t22 t23 t24 t25 t26 t27 t28 t29 t30 t31 t32 t33 t34 t35 t36 t37 t38 t39 t40 t41 t42 t43 t44 t45 t46 t47 t48 t49 t50 t51 t52 t53 t54 t55 t56 t57 t58 t59 t60 t61 t62 t63 t64 t65 t66 t67 t68 t69 t70 t71 t72 t73 t74 t75 t76 t77 t78 t79 t80 t81 t82 t83 t84 t85 t86 t87 t88 t89 t90 t91 t92 t93 t94 t95 t96 t97 t98 t99 t100 t101 t102 t103 t104 t105 t106 t107 t108 t109 t110 t111 t112 t113 t114 t115 t116 t117 t118 t119 t120 t121 t122 t123 t124 t125 t126 t127 t128 t129 t130 t131 t132 t133 t134 t135 t136 t137 t138 t139 t140 t141 t142 t143 t144 t145 t146 t147 t148 t149 t150 t151 t152 t153 t154 t155 t156 t157 t158 t159 t160 t161 t162 t163 t164 t165 t166 t167 t168 t169 t170 t171 t172 t173 t174 t175 t176 t177 t178 t179 t180 t181 t182 t183 t184 t185 t186 t187 t188 t189 t190 t191 t192 t193 t194 t195 t196 t197 t198 t199 t200 t201 t202 t203 t204 t205 t206 t207 t208 t209 t210 t211 t212 t213 t214 t215 t216 t217 t218 t219 t220 t221 t222 t223 t224 t225 t226 t227 t228 t229 t230 t231 t232 t233 t234 t235 t236 t237 t238 t239 t240 : Value) (hQ : ∀ (u31 u32 u33 u34 u35 u36 u37 u38 u39 u40 u41 u42 u43 u44 u45 u46 u47 u48 u49 u50 u51 u52 u53 u54 u55 u56 u57 u58 u59 u60 u61 u62 : Value) (w' : World), (∃ oc3, Hid (Th w o a x y FA FX ⟨ka :: FY.ks, va :: FY.vs, FY.cs⟩ w' oc3)) → Q .normal ⟨(.pointer (some ⟨a, 0, none⟩) :: .int .i64 i :: t2 :: t3 :: t4 :: t5 :: .pointer (some ⟨x, 0, none⟩) :: .pointer (some ⟨y, 0, none⟩) :: t8 :: t9 :: t10 :: t11 :: t12 :: t13 :: t14 :: t15 :: t16 :: t17 :: t18 :: t19 :: t20 :: t21 :: t22 :: t23 :: t24 :: t25 :: t26 :: t27 :: t28 :: t29 :: t30 :: u31 :: u32 :: u33 :: u34 :: u35 :: u36 :: u37 :: u38 :: u39 :: u40 :: u41 :: u42 :: u43 :: u44 :: u45 :: u46 :: u47 :: u48 :: u49 :: u50 :: u51 :: u52 :: u53 :: u54 :: u55 :: u56 :: u57 :: u58 :: u59 :: u60 :: u61 :: u62 :: t63 :: t64 :: t65 :: t66 :: t67 :: t68 :: t69 :: t70 :: t71 :: t72 :: t73 :: t74 :: t75 :: t76 :: t77 :: t78 :: t79 :: t80 :: t81 :: t82 :: t83 :: t84 :: t85 :: t86 :: t87 :: t88 :: t89 :: t90 :: t91 :: t92 :: t93 :: t94 :: t95 :: t96 :: t97 :: t98 :: t99 :: t100 :: t101 :: t102 :: t103 :: t104 :: t105 :: t106 :: t107 :: t108 :: t109 :: t110 :: t111 :: t112 :: t113 :: t114 :: t115 :: t116 :: t117 :: t118 :: t119 :: t120 :: t121 :: t122 :: t123 :: t124 :: t125 :: t126 :: t127 :: t128 :: t129 :: t130 :: t131 :: t132 :: t133 :: t134 :: t135 :: t136 :: t137 :: t138 :: t139 :: t140 :: t141 :: t142 :: t143 :: t144 :: t145 :: t146 :: t147 :: t148 :: t149 :: t150 :: t151 :: t152 :: t153 :: t154 :: t155 :: t156 :: t157 :: t158 :: t159 :: t160 :: t161 :: t162 :: t163 :: t164 :: t165 :: t166 :: t167 :: t168 :: t169 :: t170 :: t171 :: t172 :: t173 :: t174 :: t175 :: t176 :: t177 :: t178 :: t179 :: t180 :: t181 :: t182 :: t183 :: t184 :: t185 :: t186 :: t187 :: t188 :: t189 :: t190 :: t191 :: t192 :: t193 :: t194 :: t195 :: t196 :: t197 :: t198 :: t199 :: t200 :: t201 :: t202 :: t203 :: t204 :: t205 :: t206 :: t207 :: t208 :: t209 :: t210 :: t211 :: t212 :: t213 :: t214 :: t215 :: t216 :: t217 :: t218 :: t219 :: t220 :: t221 :: t222 :: t223 :: t224 :: t225 :: t226 :: t227 :: t228 :: t229 :: t230 :: t231 :: t232 :: t233 :: t234 :: t235 :: t236 :: t237 :: t238 :: t239 :: t240 :: []).toArray, []⟩ w') :
    Code.wp Try.prog shR_3_code Q ⟨(.pointer (some ⟨a, 0, none⟩) :: .int .i64 i :: t2 :: t3 :: t4 :: t5 :: .pointer (some ⟨x, 0, none⟩) :: .pointer (some ⟨y, 0, none⟩) :: t8 :: t9 :: t10 :: t11 :: t12 :: t13 :: t14 :: t15 :: t16 :: t17 :: t18 :: t19 :: t20 :: t21 :: t22 :: t23 :: t24 :: t25 :: t26 :: t27 :: t28 :: t29 :: t30 :: t31 :: t32 :: t33 :: t34 :: t35 :: t36 :: t37 :: t38 :: t39 :: t40 :: t41 :: t42 :: t43 :: t44 :: t45 :: t46 :: t47 :: t48 :: t49 :: t50 :: t51 :: t52 :: t53 :: t54 :: t55 :: t56 :: t57 :: t58 :: t59 :: t60 :: t61 :: t62 :: t63 :: t64 :: t65 :: t66 :: t67 :: t68 :: t69 :: t70 :: t71 :: t72 :: t73 :: t74 :: t75 :: t76 :: t77 :: t78 :: t79 :: t80 :: t81 :: t82 :: t83 :: t84 :: t85 :: t86 :: t87 :: t88 :: t89 :: t90 :: t91 :: t92 :: t93 :: t94 :: t95 :: t96 :: t97 :: t98 :: t99 :: t100 :: t101 :: t102 :: t103 :: t104 :: t105 :: t106 :: t107 :: t108 :: t109 :: t110 :: t111 :: t112 :: t113 :: t114 :: t115 :: t116 :: t117 :: t118 :: t119 :: t120 :: t121 :: t122 :: t123 :: t124 :: t125 :: t126 :: t127 :: t128 :: t129 :: t130 :: t131 :: t132 :: t133 :: t134 :: t135 :: t136 :: t137 :: t138 :: t139 :: t140 :: t141 :: t142 :: t143 :: t144 :: t145 :: t146 :: t147 :: t148 :: t149 :: t150 :: t151 :: t152 :: t153 :: t154 :: t155 :: t156 :: t157 :: t158 :: t159 :: t160 :: t161 :: t162 :: t163 :: t164 :: t165 :: t166 :: t167 :: t168 :: t169 :: t170 :: t171 :: t172 :: t173 :: t174 :: t175 :: t176 :: t177 :: t178 :: t179 :: t180 :: t181 :: t182 :: t183 :: t184 :: t185 :: t186 :: t187 :: t188 :: t189 :: t190 :: t191 :: t192 :: t193 :: t194 :: t195 :: t196 :: t197 :: t198 :: t199 :: t200 :: t201 :: t202 :: t203 :: t204 :: t205 :: t206 :: t207 :: t208 :: t209 :: t210 :: t211 :: t212 :: t213 :: t214 :: t215 :: t216 :: t217 :: t218 :: t219 :: t220 :: t221 :: t222 :: t223 :: t224 :: t225 :: t226 :: t227 :: t228 :: t229 :: t230 :: t231 :: t232 :: t233 :: t234 :: t235 :: t236 :: t237 :: t238 :: t239 :: t240 :: []).toArray, []⟩ wc := by
  refine wp_onN ?_
  conv => arg 2; whnf
  obtain ⟨ak, av, ac, hA⟩ := HS.out.na
  obtain ⟨yk, yv, yc, hY⟩ := HS.out.ny
  obtain ⟨gk, c1, gv, c2, rfl, rfl, -, -, hi3, hi4⟩ := hA.rows hka hva
  obtain ⟨E1, e1, E2, e2, E3, e3, rfl, rfl, rfl, -⟩ := hY.row
  have HKI := Lib.hid (show ∀ V, Below wc.heap.size wc V → ∀ gv, V.heap[gv]? = some (.cells #[(.slice (ka).A (ka).l.length (ka).c)] 22 (0, 0)) → wc.heap.size ≤ gv → Calls Try.prog 86 #[.slice E1 FY.ks.length e1, .int .i64 0, .slice (some ⟨gv, 0, none⟩) 1 1] V fun e w2 => ∃ v', e = .returned v' ∧ Rw w2 22 v' (ksR (ka :: FY.ks)) ∧ V.grownBy w2 (Value.slice E1 FY.ks.length e1).ownBlock ∧ Nw wc (.slice E1 FY.ks.length e1) v' from fun V hb gv hv hq => key_insW hY (by omega) (i := 0) (Nat.zero_le _) ka hb gv hv hq)
  have HVI := Lib.hid (show ∀ V, wc.grownBy V (Value.slice E1 FY.ks.length e1).ownBlock → ∀ gv, V.heap[gv]? = some (.cells #[.int .u64 va] 38 (0, 0)) → wc.heap.size ≤ gv → Calls Try.prog 77 #[.slice E2 FY.vs.length e2, .int .i64 0, .slice (some ⟨gv, 0, none⟩) 1 1] V fun e w2 => ∃ v', e = .returned v' ∧ Rw w2 38 v' (vsR (va :: FY.vs)) ∧ V.grownBy w2 (Value.slice E2 FY.vs.length e2).ownBlock ∧ Nw wc (.slice E2 FY.vs.length e2) v' from fun V hb gv hv hq => val_insW hY (by omega) (i := 0) (Nat.zero_le _) va hb gv hv hq)
  have HSK := Lib.hid (fun V (hg : Gr2 wc V (.slice E1 FY.ks.length e1) (.slice E2 FY.vs.length e2)) => And.intro (hY.own2 hg).1 (And.intro (hY.own2 hg).2.1 (And.intro ((hY.apart2 hA (Ne.symm hay) hg).kat hka) ((hY.apart2 hA (Ne.symm hay) hg).vat hva))))
  have HYV := Lib.hid (fun V (hg : wc.grownBy V (Value.slice E1 FY.ks.length e1).ownBlock) => rw_apart hY.rv hY.rk hg (by decide))
  have HYK := Lib.hid (fun g (e : (Value.slice E1 FY.ks.length e1).ownBlock = some g) => hY.rk.lt e)
  have HOK := Lib.hid (show ∀ k ∈ ka :: FY.ks, KOk wc oc k from fun k hk => by
    rcases List.mem_cons.1 hk with rfl | hk
    · exact hA.ok _ (List.mem_of_getElem? hka)
    · exact hY.ok k hk)
  have HYN := Lib.hid hY
  clear hA hY
  refine wp_region_Y1 (by kernel_rfl) ?_
  intro V hV
  refine wpY_take (i := 0) (v := ?_) [] rfl (by kernel_rfl) (by kernel_rfl) (by kernel_rfl) (by kernel_rfl) (fun _ _ _ h => h) (Or.inl ⟨by rfl, ?_⟩) trivial ?_
  rotate_left
  · (intro wS hSw; (try dsimp only at hSw); go_simp; (try (with_reducible rfl)))
  try simp only [Act.put, List.setIfInBounds_toArray]
  refine wpY_take (i := 1) (v := ?_) [] rfl (by kernel_rfl) (by kernel_rfl) (by kernel_rfl) (by kernel_rfl) (fun _ _ _ h => h) (Or.inl ⟨by rfl, ?_⟩) trivial ?_
  rotate_left
  · (intro wS hSw; (try dsimp only at hSw); go_simp; (try (with_reducible rfl)))
  try simp only [Act.put]
  refine wpY_take (i := 2) (v := ?_) [] rfl (by kernel_rfl) (by kernel_rfl) (by kernel_rfl) (by kernel_rfl) (fun _ _ _ h => h) (Or.inl ⟨by rfl, ?_⟩) trivial ?_
  rotate_left
  · (intro wS hSw; (try dsimp only at hSw); go_simp; (try (with_reducible rfl)))
  try simp only [Act.put]
  refine wpY_take (i := 3) (v := ?_) [] rfl (by kernel_rfl) (by kernel_rfl) (by kernel_rfl) (by kernel_rfl) (fun _ _ _ h => h) (Or.inl ⟨by rfl, ?_⟩) trivial ?_
  rotate_left
  · (intro wS hSw; (try dsimp only at hSw); go_simp; (try (with_reducible rfl)))
  try simp only [Act.put]
  refine wpY_take (i := 4) (v := ?_) [] rfl (by kernel_rfl) (by kernel_rfl) (by kernel_rfl) (by kernel_rfl) (fun _ _ _ h => h) (Or.inl ⟨by rfl, ?_⟩) trivial ?_
  rotate_left
  · (intro wS hSw; (try dsimp only at hSw); go_simp; (try (with_reducible rfl)))
  try simp only [Act.put]
  refine wpY_take (i := 6) (v := ?_) [] rfl (by kernel_rfl) (by kernel_rfl) (by kernel_rfl) (by kernel_rfl) (fun _ _ _ h => h) (Or.inl ⟨by rfl, ?_⟩) trivial ?_
  rotate_left
  · (intro wS hSw; (try dsimp only at hSw); go_simp; (try (with_reducible rfl)))
  try simp only [Act.put]
  refine wpY_take (i := 7) (v := ?_) [] rfl (by kernel_rfl) (by kernel_rfl) (by kernel_rfl) (by kernel_rfl) (fun _ _ _ h => h) (Or.inl ⟨by rfl, ?_⟩) trivial ?_
  rotate_left
  · (intro wS hSw; (try dsimp only at hSw); go_simp; (try (with_reducible rfl)))
  try simp only [Act.put]
  refine wpY_take (i := 8) (v := ?_) [] rfl (by kernel_rfl) (by kernel_rfl) (by kernel_rfl) (by kernel_rfl) (fun _ _ _ h => h) (Or.inl ⟨by rfl, ?_⟩) trivial ?_
  rotate_left
  · (intro wS hSw; (try dsimp only at hSw); go_simp; (try (with_reducible rfl)))
  try simp only [Act.put]
  refine wpY_take (i := 10) (v := ?_) [] rfl (by kernel_rfl) (by kernel_rfl) (by kernel_rfl) (by kernel_rfl) (fun _ _ _ h => h) (Or.inl ⟨by rfl, ?_⟩) trivial ?_
  rotate_left
  · (intro wS hSw; (try dsimp only at hSw); go_simp; (try (with_reducible rfl)))
  try simp only [Act.put]
  refine wpY_take (i := 15) (v := ?_) [] rfl (by kernel_rfl) (by kernel_rfl) (by kernel_rfl) (by kernel_rfl) (fun _ _ _ h => h) (Or.inl ⟨by rfl, ?_⟩) trivial ?_
  rotate_left
  · (intro wS hSw; (try dsimp only at hSw); go_simp; (try (with_reducible rfl)))
  try simp only [Act.put]
  refine wpY_take (i := 16) (v := ?_) [] rfl (by kernel_rfl) (by kernel_rfl) (by kernel_rfl) (by kernel_rfl) (fun _ _ _ h => h) (Or.inl ⟨by rfl, ?_⟩) trivial ?_
  rotate_left
  · (intro wS hSw; (try dsimp only at hSw); go_simp; (try (with_reducible rfl)))
  try simp only [Act.put]
  refine wpY_take (i := 17) (v := ?_) [] rfl (by kernel_rfl) (by kernel_rfl) (by kernel_rfl) (by kernel_rfl) (fun _ _ _ h => h) (Or.inl ⟨by rfl, ?_⟩) trivial ?_
  rotate_left
  · (intro wS hSw; (try dsimp only at hSw); go_simp; (try (with_reducible rfl)))
  try simp only [Act.put]
  refine wpY_take (i := 19) (v := ?_) [] rfl (by kernel_rfl) (by kernel_rfl) (by kernel_rfl) (by kernel_rfl) (fun _ _ _ h => h) (Or.inl ⟨by rfl, ?_⟩) trivial ?_
  rotate_left
  · (intro wS hSw; (try dsimp only at hSw); go_simp; (try (with_reducible rfl)))
  try simp only [Act.put]
  refine wpY_take (i := 20) (v := ?_) [] rfl (by kernel_rfl) (by kernel_rfl) (by kernel_rfl) (by kernel_rfl) (fun _ _ _ h => h) (Or.inl ⟨by rfl, ?_⟩) trivial ?_
  rotate_left
  · (intro wS hSw; (try dsimp only at hSw); go_simp; (try (with_reducible rfl)))
  try simp only [Act.put]
  refine wpY_take (i := 21) (v := ?_) [] rfl (by kernel_rfl) (by kernel_rfl) (by kernel_rfl) (by kernel_rfl) (fun _ _ _ h => h) (Or.inl ⟨by rfl, ?_⟩) trivial ?_
  rotate_left
  · (intro wS hSw; (try dsimp only at hSw); go_simp; (try (with_reducible rfl)))
  try simp only [Act.put]
  refine wpY_take (i := 23) (v := ?_) [] rfl (by kernel_rfl) (by kernel_rfl) (by kernel_rfl) (by kernel_rfl) (fun _ _ _ h => h) (Or.inl ⟨by rfl, ?_⟩) trivial ?_
  rotate_left
  · (intro wS hSw; (try dsimp only at hSw); go_simp; (try (with_reducible rfl)))
  try simp only [Act.put]
  have HB := Lib.hid (show Below wc.heap.size wc V from by rw [hV]; exact (Below.refl _ _).drew)
  clear hV
  have HG := Lib.hid (show Gr2 wc V (.slice E1 FY.ks.length e1) (.slice E2 FY.vs.length e2) from Gr2.below HB.out)
  have HG1 := Lib.hid (show wc.grownBy V (Value.slice E1 FY.ks.length e1).ownBlock from below_grown HB.out _)
  have hS0 := HSK.out V HG.out
  refine wpY_swap ((fun W' => W'.cell? ⟨y, 0, none⟩ = some (.slice E1 FY.ks.length e1) ∧ W'.cell? ⟨y, 1, none⟩ = some (.slice E2 FY.vs.length e2) ∧ (W'.cell? ⟨a, 0, none⟩ = some (.slice (some ⟨gk, 0, none⟩) FA.ks.length c1) ∧ W'.cell? ⟨gk, i, none⟩ = some (.slice (ka).A (ka).l.length (ka).c)) ∧ (W'.cell? ⟨a, 1, none⟩ = some (.slice (some ⟨gv, 0, none⟩) FA.vs.length c2) ∧ W'.cell? ⟨gv, i, none⟩ = some (.int .u64 va)))) [28, 29, 30, 31, 32, 33] ?_
  refine wpY_take (i := 5) (v := ?_) [[28], [29], [30], [31], [32], [33]] rfl (by kernel_rfl) (by kernel_rfl) (by kernel_rfl) (by kernel_rfl) (fun _ _ _ h => h) (Or.inl ⟨by rfl, ?_⟩) (by assumption) ?_
  rotate_left
  · (intro wS hSw; (try dsimp only at hSw); go_simp; (try (with_reducible rfl)))
  try simp only [Act.put]
  refine wpY_take (i := 9) (v := ?_) [[28], [29], [30], [31], [32], [33]] rfl (by kernel_rfl) (by kernel_rfl) (by kernel_rfl) (by kernel_rfl) (fun _ _ _ h => h) (Or.inl ⟨by rfl, ?_⟩) (by assumption) ?_
  rotate_left
  · (intro wS hSw; (try dsimp only at hSw); go_simp; (try (with_reducible rfl)))
  try simp only [Act.put]
  refine wpY_take (i := 11) (v := ?_) [[28], [29], [30], [31], [32], [33]] rfl (by kernel_rfl) (by kernel_rfl) (by kernel_rfl) (by kernel_rfl) (fun _ _ _ h => h) (Or.inl ⟨by rfl, ?_⟩) (by assumption) ?_
  rotate_left
  · (intro wS hSw; (try dsimp only at hSw); go_simp; (try (with_reducible rfl)))
  try simp only [Act.put]
  refine wpY_take (i := 12) (v := ?_) [[28], [29], [30], [31], [32], [33]] rfl (by kernel_rfl) (by kernel_rfl) (by kernel_rfl) (by kernel_rfl) (fun _ _ _ h => h) (Or.inl ⟨by rfl, ?_⟩) (by assumption) ?_
  rotate_left
  · (intro wS hSw; (try dsimp only at hSw); go_simp; (try (with_reducible rfl)))
  try simp only [Act.put]
  refine wpY_take (i := 18) (v := ?_) [[28], [29], [30], [31], [32], [33]] rfl (by kernel_rfl) (by kernel_rfl) (by kernel_rfl) (by kernel_rfl) (fun _ _ _ h => h) (Or.inl ⟨by rfl, ?_⟩) (by assumption) ?_
  rotate_left
  · (intro wS hSw; (try dsimp only at hSw); go_simp; (try (with_reducible rfl)))
  try simp only [Act.put]
  refine wpY_take (i := 22) (v := ?_) [[28], [29], [30], [31], [32], [33]] rfl (by kernel_rfl) (by kernel_rfl) (by kernel_rfl) (by kernel_rfl) (fun _ _ _ h => h) (Or.inl ⟨by rfl, ?_⟩) (by assumption) ?_
  rotate_left
  · (intro wS hSw; (try dsimp only at hSw); go_simp; (try (with_reducible rfl)))
  try simp only [Act.put]
  refine wpY_take (i := 24) (v := ?_) [[28, 25], [29, 25], [30, 25], [31], [32], [33]] rfl (by kernel_rfl) (by kernel_rfl) (by kernel_rfl) (by kernel_rfl) (fun _ _ _ h => h) (Or.inl ⟨by rfl, ?_⟩) (by assumption) ?_
  rotate_left
  · (intro wS hSw; (try dsimp only at hSw); go_simp; (try (with_reducible rfl)))
  try simp only [Act.put]
  refine wpY_take (i := 25) (v := ?_) [[28], [29], [30], [31], [32], [33]] rfl (by kernel_rfl) (by kernel_rfl) (by kernel_rfl) (by kernel_rfl) (fun _ _ _ h => h) (Or.inl ⟨by rfl, ?_⟩) (by assumption) ?_
  rotate_left
  · (intro wS hSw; (try dsimp only at hSw); go_simp; (try (with_reducible rfl)))
  try simp only [Act.put]
  refine wpY_two (i := 13) (j := 26) (by kernel_rfl) rfl rfl (fun K hK => ?_) (fun K hK => ?_)
  ·
    go_simp
    have H13 := Lib.hid (top_blk V #[(.slice (ka).A (ka).l.length (ka).c)] 22)
    have HQ13 := Lib.hid (show wc.heap.size ≤ V.heap.size from HG.out.size)
    have HB := Lib.hid (HB.out.alloc HB.out.size (.cells #[(.slice (ka).A (ka).l.length (ka).c)] 22))
    have HG := Lib.hid (HG.out.alloc (.cells #[(.slice (ka).A (ka).l.length (ka).c)] 22))
    have HG1 := Lib.hid (grown_alloc HG1.out (.cells #[(.slice (ka).A (ka).l.length (ka).c)] 22))
    (try have H26 := Lib.hid (blk_alloc H26.out (.cells #[(.slice (ka).A (ka).l.length (ka).c)] 22)))
    refine letK ?_
    intro V hV
    rw [← hV] at H13 HB HG HG1
    (try rw [← hV] at H26)
    clear hV
    refine hK.out _ _ (.inr (HSK.out _ HG.out)) ?_
    clear hK K
    try simp only [Act.put, List.setIfInBounds_toArray, List.set_cons_zero, List.set_cons_succ]
    refine wpY_two (i := 14) (j := 26) (by kernel_rfl) rfl rfl (fun K hK => ?_) (fun K hK => ?_)
    ·
      go_simp
      refine (HKI.out V HB.out _ H13.out HQ13.out).mono ?_
      rintro e V ⟨vk', rfl, hr2, hg2, hn2⟩
      obtain ⟨Ak, lk, ck, rfl⟩ := rw_slice hr2
      have HR14 := Lib.hid hr2
      have HN14 := Lib.hid hn2
      have HG := Lib.hid (HG.out.grownL hg2)
      have HG1 := Lib.hid (HG1.out.trans hg2)
      (try have H26 := Lib.hid (blk_apart H26.out hg2 (fun e => by have := HYK.out _ e; have := HQ26.out; omega)))
      clear hr2 hg2 hn2 HB H13
      refine hK.out _ _ (.inr (HSK.out _ HG.out)) ?_
      clear hK K
      try simp only [Act.put, List.setIfInBounds_toArray, List.set_cons_zero, List.set_cons_succ]
      refine wpY_one (i := 26) (by kernel_rfl) rfl (fun K hK => ?_)
      go_simp
      have H26 := Lib.hid (top_blk V #[.int .u64 va] 38)
      have HQ26 := Lib.hid (show wc.heap.size ≤ V.heap.size from HG.out.size)
      (try have HB := Lib.hid (HB.out.alloc HB.out.size (.cells #[.int .u64 va] 38)))
      have HG := Lib.hid (HG.out.alloc (.cells #[.int .u64 va] 38))
      have HG1 := Lib.hid (grown_alloc HG1.out (.cells #[.int .u64 va] 38))
      (try have H13 := Lib.hid (blk_alloc H13.out (.cells #[.int .u64 va] 38)))
      (try have HR14 := Lib.hid (rw_alloc HR14.out (.cells #[.int .u64 va] 38)))
      refine letK ?_
      intro V hV
      rw [← hV] at H26 HG HG1
      (try rw [← hV] at HB)
      (try rw [← hV] at H13)
      (try rw [← hV] at HR14)
      clear hV
      refine hK.out _ _ (.inr (HSK.out _ HG.out)) ?_
      clear hK K
      try simp only [Act.put, List.setIfInBounds_toArray, List.set_cons_zero, List.set_cons_succ]
      refine wpY_one (i := 27) (by kernel_rfl) rfl (fun K hK => ?_)
      go_simp
      refine (HVI.out V HG1.out _ H26.out HQ26.out).mono ?_
      rintro e V ⟨vv', rfl, hr3, hg3, hn3⟩
      obtain ⟨Av, lv, cv, rfl⟩ := rw_slice hr3
      have HR27 := Lib.hid hr3
      have HN27 := Lib.hid hn3
      have HR14 := Lib.hid (rw_apart HR14.out (HYV.out _ HG1.out) hg3 (by decide))
      have HG := Lib.hid (HG.out.grownR hg3)
      clear hr3 hg3 hn3 HG1 H26
      obtain ⟨f0, f1, -, f3⟩ := HYN.out.own2 HG.out
      have f30 := f3 0
      have f31 := f3 1
      clear f3
      refine hK.out _ _ (.inr (HSK.out _ HG.out)) ?_
      clear hK K
      try simp only [Act.put, List.setIfInBounds_toArray, List.set_cons_zero, List.set_cons_succ]
      refine wpY_one (i := 28) (by kernel_rfl) rfl (fun K hK => ?_)
      go_simp
      refine hK.out _ _ (.inl (by decide)) ?_
      clear hK K
      try simp only [Act.put, List.setIfInBounds_toArray, List.set_cons_zero, List.set_cons_succ]
      refine wpY_one (i := 29) (by kernel_rfl) rfl (fun K hK => ?_)
      go_simp
      refine hK.out _ _ (.inl (by decide)) ?_
      clear hK K
      try simp only [Act.put, List.setIfInBounds_toArray, List.set_cons_zero, List.set_cons_succ]
      refine wpY_one (i := 30) (by kernel_rfl) rfl (fun K hK => ?_)
      go_simp
      refine hK.out _ _ (.inl (by decide)) ?_
      clear hK K
      try simp only [Act.put, List.setIfInBounds_toArray, List.set_cons_zero, List.set_cons_succ]
      refine wpY_one (i := 31) (by kernel_rfl) rfl (fun K hK => ?_)
      go_simp
      refine hK.out _ _ (.inl (by decide)) ?_
      clear hK K
      try simp only [Act.put, List.setIfInBounds_toArray, List.set_cons_zero, List.set_cons_succ]
      refine wpY_one (i := 32) (by kernel_rfl) rfl (fun K hK => ?_)
      go_simp
      refine hK.out _ _ (.inl (by decide)) ?_
      clear hK K
      try simp only [Act.put, List.setIfInBounds_toArray, List.set_cons_zero, List.set_cons_succ]
      refine wpY_one (i := 33) (by kernel_rfl) rfl (fun K hK => ?_)
      go_simp
      refine hK.out _ _ (.inl (by decide)) ?_
      clear hK K
      try simp only [Act.put, List.setIfInBounds_toArray, List.set_cons_zero, List.set_cons_succ]
      refine wpY_done (by kernel_rfl) ?_ _
      apply hQ
      obtain ⟨hY5, hU5⟩ := NdAt.skv HS.out.up.fb HYN.out HG.out HR14.out HR27.out HN14.out HN27.out HOK.out
      exact ⟨_, Lib.hid (HS.out.stepY HF.out hay hxy hY5 hU5)⟩
    ·
      go_simp
      have H26 := Lib.hid (top_blk V #[.int .u64 va] 38)
      have HQ26 := Lib.hid (show wc.heap.size ≤ V.heap.size from HG.out.size)
      (try have HB := Lib.hid (HB.out.alloc HB.out.size (.cells #[.int .u64 va] 38)))
      have HG := Lib.hid (HG.out.alloc (.cells #[.int .u64 va] 38))
      have HG1 := Lib.hid (grown_alloc HG1.out (.cells #[.int .u64 va] 38))
      (try have H13 := Lib.hid (blk_alloc H13.out (.cells #[.int .u64 va] 38)))
      (try have HR14 := Lib.hid (rw_alloc HR14.out (.cells #[.int .u64 va] 38)))
      refine letK ?_
      intro V hV
      rw [← hV] at H26 HG HG1
      (try rw [← hV] at HB)
      (try rw [← hV] at H13)
      (try rw [← hV] at HR14)
      clear hV
      refine hK.out _ _ (.inr (HSK.out _ HG.out)) ?_
      clear hK K
      try simp only [Act.put, List.setIfInBounds_toArray, List.set_cons_zero, List.set_cons_succ]
      refine wpY_one (i := 14) (by kernel_rfl) rfl (fun K hK => ?_)
      go_simp
      refine (HKI.out V HB.out _ H13.out HQ13.out).mono ?_
      rintro e V ⟨vk', rfl, hr2, hg2, hn2⟩
      obtain ⟨Ak, lk, ck, rfl⟩ := rw_slice hr2
      have HR14 := Lib.hid hr2
      have HN14 := Lib.hid hn2
      have HG := Lib.hid (HG.out.grownL hg2)
      have HG1 := Lib.hid (HG1.out.trans hg2)
      (try have H26 := Lib.hid (blk_apart H26.out hg2 (fun e => by have := HYK.out _ e; have := HQ26.out; omega)))
      clear hr2 hg2 hn2 HB H13
      refine hK.out _ _ (.inr (HSK.out _ HG.out)) ?_
      clear hK K
      try simp only [Act.put, List.setIfInBounds_toArray, List.set_cons_zero, List.set_cons_succ]
      refine wpY_one (i := 27) (by kernel_rfl) rfl (fun K hK => ?_)
      go_simp
      refine (HVI.out V HG1.out _ H26.out HQ26.out).mono ?_
      rintro e V ⟨vv', rfl, hr3, hg3, hn3⟩
      obtain ⟨Av, lv, cv, rfl⟩ := rw_slice hr3
      have HR27 := Lib.hid hr3
      have HN27 := Lib.hid hn3
      have HR14 := Lib.hid (rw_apart HR14.out (HYV.out _ HG1.out) hg3 (by decide))
      have HG := Lib.hid (HG.out.grownR hg3)
      clear hr3 hg3 hn3 HG1 H26
      obtain ⟨f0, f1, -, f3⟩ := HYN.out.own2 HG.out
      have f30 := f3 0
      have f31 := f3 1
      clear f3
      refine hK.out _ _ (.inr (HSK.out _ HG.out)) ?_
      clear hK K
      try simp only [Act.put, List.setIfInBounds_toArray, List.set_cons_zero, List.set_cons_succ]
      refine wpY_one (i := 28) (by kernel_rfl) rfl (fun K hK => ?_)
      go_simp
      refine hK.out _ _ (.inl (by decide)) ?_
      clear hK K
      try simp only [Act.put, List.setIfInBounds_toArray, List.set_cons_zero, List.set_cons_succ]
      refine wpY_one (i := 29) (by kernel_rfl) rfl (fun K hK => ?_)
      go_simp
      refine hK.out _ _ (.inl (by decide)) ?_
      clear hK K
      try simp only [Act.put, List.setIfInBounds_toArray, List.set_cons_zero, List.set_cons_succ]
      refine wpY_one (i := 30) (by kernel_rfl) rfl (fun K hK => ?_)
      go_simp
      refine hK.out _ _ (.inl (by decide)) ?_
      clear hK K
      try simp only [Act.put, List.setIfInBounds_toArray, List.set_cons_zero, List.set_cons_succ]
      refine wpY_one (i := 31) (by kernel_rfl) rfl (fun K hK => ?_)
      go_simp
      refine hK.out _ _ (.inl (by decide)) ?_
      clear hK K
      try simp only [Act.put, List.setIfInBounds_toArray, List.set_cons_zero, List.set_cons_succ]
      refine wpY_one (i := 32) (by kernel_rfl) rfl (fun K hK => ?_)
      go_simp
      refine hK.out _ _ (.inl (by decide)) ?_
      clear hK K
      try simp only [Act.put, List.setIfInBounds_toArray, List.set_cons_zero, List.set_cons_succ]
      refine wpY_one (i := 33) (by kernel_rfl) rfl (fun K hK => ?_)
      go_simp
      refine hK.out _ _ (.inl (by decide)) ?_
      clear hK K
      try simp only [Act.put, List.setIfInBounds_toArray, List.set_cons_zero, List.set_cons_succ]
      refine wpY_done (by kernel_rfl) ?_ _
      apply hQ
      obtain ⟨hY5, hU5⟩ := NdAt.skv HS.out.up.fb HYN.out HG.out HR14.out HR27.out HN14.out HN27.out HOK.out
      exact ⟨_, Lib.hid (HS.out.stepY HF.out hay hxy hY5 hU5)⟩
  ·
    go_simp
    have H26 := Lib.hid (top_blk V #[.int .u64 va] 38)
    have HQ26 := Lib.hid (show wc.heap.size ≤ V.heap.size from HG.out.size)
    (try have HB := Lib.hid (HB.out.alloc HB.out.size (.cells #[.int .u64 va] 38)))
    have HG := Lib.hid (HG.out.alloc (.cells #[.int .u64 va] 38))
    have HG1 := Lib.hid (grown_alloc HG1.out (.cells #[.int .u64 va] 38))
    (try have H13 := Lib.hid (blk_alloc H13.out (.cells #[.int .u64 va] 38)))
    (try have HR14 := Lib.hid (rw_alloc HR14.out (.cells #[.int .u64 va] 38)))
    refine letK ?_
    intro V hV
    rw [← hV] at H26 HG HG1
    (try rw [← hV] at HB)
    (try rw [← hV] at H13)
    (try rw [← hV] at HR14)
    clear hV
    refine hK.out _ _ (.inr (HSK.out _ HG.out)) ?_
    clear hK K
    try simp only [Act.put, List.setIfInBounds_toArray, List.set_cons_zero, List.set_cons_succ]
    refine wpY_one (i := 13) (by kernel_rfl) rfl (fun K hK => ?_)
    go_simp
    have H13 := Lib.hid (top_blk V #[(.slice (ka).A (ka).l.length (ka).c)] 22)
    have HQ13 := Lib.hid (show wc.heap.size ≤ V.heap.size from HG.out.size)
    have HB := Lib.hid (HB.out.alloc HB.out.size (.cells #[(.slice (ka).A (ka).l.length (ka).c)] 22))
    have HG := Lib.hid (HG.out.alloc (.cells #[(.slice (ka).A (ka).l.length (ka).c)] 22))
    have HG1 := Lib.hid (grown_alloc HG1.out (.cells #[(.slice (ka).A (ka).l.length (ka).c)] 22))
    (try have H26 := Lib.hid (blk_alloc H26.out (.cells #[(.slice (ka).A (ka).l.length (ka).c)] 22)))
    refine letK ?_
    intro V hV
    rw [← hV] at H13 HB HG HG1
    (try rw [← hV] at H26)
    clear hV
    refine hK.out _ _ (.inr (HSK.out _ HG.out)) ?_
    clear hK K
    try simp only [Act.put, List.setIfInBounds_toArray, List.set_cons_zero, List.set_cons_succ]
    refine wpY_one (i := 14) (by kernel_rfl) rfl (fun K hK => ?_)
    go_simp
    refine (HKI.out V HB.out _ H13.out HQ13.out).mono ?_
    rintro e V ⟨vk', rfl, hr2, hg2, hn2⟩
    obtain ⟨Ak, lk, ck, rfl⟩ := rw_slice hr2
    have HR14 := Lib.hid hr2
    have HN14 := Lib.hid hn2
    have HG := Lib.hid (HG.out.grownL hg2)
    have HG1 := Lib.hid (HG1.out.trans hg2)
    (try have H26 := Lib.hid (blk_apart H26.out hg2 (fun e => by have := HYK.out _ e; have := HQ26.out; omega)))
    clear hr2 hg2 hn2 HB H13
    refine hK.out _ _ (.inr (HSK.out _ HG.out)) ?_
    clear hK K
    try simp only [Act.put, List.setIfInBounds_toArray, List.set_cons_zero, List.set_cons_succ]
    refine wpY_one (i := 27) (by kernel_rfl) rfl (fun K hK => ?_)
    go_simp
    refine (HVI.out V HG1.out _ H26.out HQ26.out).mono ?_
    rintro e V ⟨vv', rfl, hr3, hg3, hn3⟩
    obtain ⟨Av, lv, cv, rfl⟩ := rw_slice hr3
    have HR27 := Lib.hid hr3
    have HN27 := Lib.hid hn3
    have HR14 := Lib.hid (rw_apart HR14.out (HYV.out _ HG1.out) hg3 (by decide))
    have HG := Lib.hid (HG.out.grownR hg3)
    clear hr3 hg3 hn3 HG1 H26
    obtain ⟨f0, f1, -, f3⟩ := HYN.out.own2 HG.out
    have f30 := f3 0
    have f31 := f3 1
    clear f3
    refine hK.out _ _ (.inr (HSK.out _ HG.out)) ?_
    clear hK K
    try simp only [Act.put, List.setIfInBounds_toArray, List.set_cons_zero, List.set_cons_succ]
    refine wpY_one (i := 28) (by kernel_rfl) rfl (fun K hK => ?_)
    go_simp
    refine hK.out _ _ (.inl (by decide)) ?_
    clear hK K
    try simp only [Act.put, List.setIfInBounds_toArray, List.set_cons_zero, List.set_cons_succ]
    refine wpY_one (i := 29) (by kernel_rfl) rfl (fun K hK => ?_)
    go_simp
    refine hK.out _ _ (.inl (by decide)) ?_
    clear hK K
    try simp only [Act.put, List.setIfInBounds_toArray, List.set_cons_zero, List.set_cons_succ]
    refine wpY_one (i := 30) (by kernel_rfl) rfl (fun K hK => ?_)
    go_simp
    refine hK.out _ _ (.inl (by decide)) ?_
    clear hK K
    try simp only [Act.put, List.setIfInBounds_toArray, List.set_cons_zero, List.set_cons_succ]
    refine wpY_one (i := 31) (by kernel_rfl) rfl (fun K hK => ?_)
    go_simp
    refine hK.out _ _ (.inl (by decide)) ?_
    clear hK K
    try simp only [Act.put, List.setIfInBounds_toArray, List.set_cons_zero, List.set_cons_succ]
    refine wpY_one (i := 32) (by kernel_rfl) rfl (fun K hK => ?_)
    go_simp
    refine hK.out _ _ (.inl (by decide)) ?_
    clear hK K
    try simp only [Act.put, List.setIfInBounds_toArray, List.set_cons_zero, List.set_cons_succ]
    refine wpY_one (i := 33) (by kernel_rfl) rfl (fun K hK => ?_)
    go_simp
    refine hK.out _ _ (.inl (by decide)) ?_
    clear hK K
    try simp only [Act.put, List.setIfInBounds_toArray, List.set_cons_zero, List.set_cons_succ]
    refine wpY_done (by kernel_rfl) ?_ _
    apply hQ
    obtain ⟨hY5, hU5⟩ := NdAt.skv HS.out.up.fb HYN.out HG.out HR14.out HR27.out HN14.out HN27.out HOK.out
    exact ⟨_, Lib.hid (HS.out.stepY HF.out hay hxy hY5 hU5)⟩
noncomputable def shR_4_code : Code := ((Try.f107.body.bind (findRg 4)).getD .skip)
set_option maxRecDepth 1000000 in
set_option maxHeartbeats 8000000 in
theorem shR_4 (a x y i : Nat) (w : World) (o : Nat → Nat) (FA FX FY : Nf Ky) (HF : Hid (Fb o w)) (hax : a ≠ x) (hay : a ≠ y) (_hxy : x ≠ y) (L : Nat) (hL : FX.ks.length = L) (hL2 : FX.vs.length = L) (hL1 : 0 < L) (hL3 : L ≤ 1000) (ka ke : Ky) (va ve : Int) (hka : FA.ks[i]? = some ka) (hva : FA.vs[i]? = some va) (hke : FX.ks[L - 1]? = some ke) (hve : FX.vs[L - 1]? = some ve) (wc : World) (oc : Nat → Nat) (HS : Hid (Th w o a x y FA FX FY wc oc)) {Q : Exit → Act → World → Prop} (t2 t3 t4 t5 t7 t9 t10 t11 t12 t13 t14 t15 t16 t17 t18 t19 t20 t21 t22 t23 t24 t25 t26 t27 t28 t29 t30 t31 t32 t33 t34 t35 t36 t37 t38 t39 t40 t41 t42 t43 t44 t45 t46 t47 t48 t49 t50 t51 t52 t53 t54 t55 t56 t57 t58 t59 t60 t61 t62 t63 t64 t65 t66 t67 t68 t69 t70 t71 t72 t73 t74 t75 t76 t77 t78 t79 t80 t81 t82 t83 t84 t85 t86 t87 t88 t89 t90 t91 t92 t93 t94 t95 t96 t97 t98 t99 t100 t101 t102 t103 t104 t105 t106 t107 t108 t109 t110 t111 t112 t113 t114 t115 t116 t117 t118 t119 t120 t121 t122 t123 t124 t125 t126 t127 t128 t129 t130 t131 t132 t133 t134 t135 t136 t137 t138 t139 t140 t141 t142 t143 t144 t145 t146 t147 t148 t149 t150 t151 t152 t153 t154 t155 t156 t157 t158 t159 t160 t161 t162 t163 t164 t165 t166 t167 t168 t169 t170 t171 t172 t173 t174 t175 t176 t177 t178 t179 t180 t181 t182 t183 t184 t185 t186 t187 t188 t189 t190 t191 t192 t193 t194 t195 t196 t197 t198 t199 t200 t201 t202 t203 t204 t205 t206 t207 t208 t209 t210 t211 t212 t213 t214 t215 t216 t217 t218 t219 t220 t221 t222 t223 t224 t225 t226 t227 t228 t229 t230 t231 t232 t233 t234 t235 t236 t237 t238 t239 t240 : Value) (hQ : ∀ (u63 u64 u65 u66 u67 u68 u69 u70 u71 u72 u73 u74 u75 u76 u77 u78 u79 u80 u81 u82 u83 u84 u85 u86 u87 u88 : Value) (w' : World), (∃ oc4, Hid (Th w o a x y ⟨FA.ks.set i ke, FA.vs.set i ve, FA.cs⟩ FX FY w' oc4)) → Q .normal ⟨(.pointer (some ⟨a, 0, none⟩) :: .int .i64 i :: t2 :: t3 :: t4 :: t5 :: .pointer (some ⟨x, 0, none⟩) :: t7 :: .int .i64 ((L : Int) - 1) :: t9 :: t10 :: t11 :: t12 :: t13 :: t14 :: t15 :: t16 :: t17 :: t18 :: t19 :: t20 :: t21 :: t22 :: t23 :: t24 :: t25 :: t26 :: t27 :: t28 :: t29 :: t30 :: t31 :: t32 :: t33 :: t34 :: t35 :: t36 :: t37 :: t38 :: t39 :: t40 :: t41 :: t42 :: t43 :: t44 :: t45 :: t46 :: t47 :: t48 :: t49 :: t50 :: t51 :: t52 :: t53 :: t54 :: t55 :: t56 :: t57 :: t58 :: t59 :: t60 :: t61 :: t62 :: u63 :: u64 :: u65 :: u66 :: u67 :: u68 :: u69 :: u70 :: u71 :: u72 :: u73 :: u74 :: u75 :: u76 :: u77 :: u78 :: u79 :: u80 :: u81 :: u82 :: u83 :: u84 :: u85 :: u86 :: u87 :: u88 :: t89 :: t90 :: t91 :: t92 :: t93 :: t94 :: t95 :: t96 :: t97 :: t98 :: t99 :: t100 :: t101 :: t102 :: t103 :: t104 :: t105 :: t106 :: t107 :: t108 :: t109 :: t110 :: t111 :: t112 :: t113 :: t114 :: t115 :: t116 :: t117 :: t118 :: t119 :: t120 :: t121 :: t122 :: t123 :: t124 :: t125 :: t126 :: t127 :: t128 :: t129 :: t130 :: t131 :: t132 :: t133 :: t134 :: t135 :: t136 :: t137 :: t138 :: t139 :: t140 :: t141 :: t142 :: t143 :: t144 :: t145 :: t146 :: t147 :: t148 :: t149 :: t150 :: t151 :: t152 :: t153 :: t154 :: t155 :: t156 :: t157 :: t158 :: t159 :: t160 :: t161 :: t162 :: t163 :: t164 :: t165 :: t166 :: t167 :: t168 :: t169 :: t170 :: t171 :: t172 :: t173 :: t174 :: t175 :: t176 :: t177 :: t178 :: t179 :: t180 :: t181 :: t182 :: t183 :: t184 :: t185 :: t186 :: t187 :: t188 :: t189 :: t190 :: t191 :: t192 :: t193 :: t194 :: t195 :: t196 :: t197 :: t198 :: t199 :: t200 :: t201 :: t202 :: t203 :: t204 :: t205 :: t206 :: t207 :: t208 :: t209 :: t210 :: t211 :: t212 :: t213 :: t214 :: t215 :: t216 :: t217 :: t218 :: t219 :: t220 :: t221 :: t222 :: t223 :: t224 :: t225 :: t226 :: t227 :: t228 :: t229 :: t230 :: t231 :: t232 :: t233 :: t234 :: t235 :: t236 :: t237 :: t238 :: t239 :: t240 :: []).toArray, []⟩ w') :
    Code.wp Try.prog shR_4_code Q ⟨(.pointer (some ⟨a, 0, none⟩) :: .int .i64 i :: t2 :: t3 :: t4 :: t5 :: .pointer (some ⟨x, 0, none⟩) :: t7 :: .int .i64 ((L : Int) - 1) :: t9 :: t10 :: t11 :: t12 :: t13 :: t14 :: t15 :: t16 :: t17 :: t18 :: t19 :: t20 :: t21 :: t22 :: t23 :: t24 :: t25 :: t26 :: t27 :: t28 :: t29 :: t30 :: t31 :: t32 :: t33 :: t34 :: t35 :: t36 :: t37 :: t38 :: t39 :: t40 :: t41 :: t42 :: t43 :: t44 :: t45 :: t46 :: t47 :: t48 :: t49 :: t50 :: t51 :: t52 :: t53 :: t54 :: t55 :: t56 :: t57 :: t58 :: t59 :: t60 :: t61 :: t62 :: t63 :: t64 :: t65 :: t66 :: t67 :: t68 :: t69 :: t70 :: t71 :: t72 :: t73 :: t74 :: t75 :: t76 :: t77 :: t78 :: t79 :: t80 :: t81 :: t82 :: t83 :: t84 :: t85 :: t86 :: t87 :: t88 :: t89 :: t90 :: t91 :: t92 :: t93 :: t94 :: t95 :: t96 :: t97 :: t98 :: t99 :: t100 :: t101 :: t102 :: t103 :: t104 :: t105 :: t106 :: t107 :: t108 :: t109 :: t110 :: t111 :: t112 :: t113 :: t114 :: t115 :: t116 :: t117 :: t118 :: t119 :: t120 :: t121 :: t122 :: t123 :: t124 :: t125 :: t126 :: t127 :: t128 :: t129 :: t130 :: t131 :: t132 :: t133 :: t134 :: t135 :: t136 :: t137 :: t138 :: t139 :: t140 :: t141 :: t142 :: t143 :: t144 :: t145 :: t146 :: t147 :: t148 :: t149 :: t150 :: t151 :: t152 :: t153 :: t154 :: t155 :: t156 :: t157 :: t158 :: t159 :: t160 :: t161 :: t162 :: t163 :: t164 :: t165 :: t166 :: t167 :: t168 :: t169 :: t170 :: t171 :: t172 :: t173 :: t174 :: t175 :: t176 :: t177 :: t178 :: t179 :: t180 :: t181 :: t182 :: t183 :: t184 :: t185 :: t186 :: t187 :: t188 :: t189 :: t190 :: t191 :: t192 :: t193 :: t194 :: t195 :: t196 :: t197 :: t198 :: t199 :: t200 :: t201 :: t202 :: t203 :: t204 :: t205 :: t206 :: t207 :: t208 :: t209 :: t210 :: t211 :: t212 :: t213 :: t214 :: t215 :: t216 :: t217 :: t218 :: t219 :: t220 :: t221 :: t222 :: t223 :: t224 :: t225 :: t226 :: t227 :: t228 :: t229 :: t230 :: t231 :: t232 :: t233 :: t234 :: t235 :: t236 :: t237 :: t238 :: t239 :: t240 :: []).toArray, []⟩ wc := by
  refine wp_onN ?_
  conv => arg 2; whnf
  obtain ⟨ak, av, ac, hA⟩ := HS.out.na
  obtain ⟨xk, xv, xc, hX⟩ := HS.out.nx
  obtain ⟨gk, c1, gv, c2, rfl, rfl, -, -, hi3, hi4⟩ := hA.rows hka hva
  obtain ⟨hk, d1, hv, d2, rfl, rfl, -, -, -, -⟩ := hX.rows hke hve
  obtain ⟨a0, k0⟩ := hA.kat hka
  obtain ⟨a1, v0⟩ := hA.vat hva
  obtain ⟨x0, k1⟩ := hX.kat hke
  obtain ⟨x1, v1⟩ := hX.vat hve
  rw [hL] at x0
  rw [hL2] at x1
  obtain ⟨cur1, hb1⟩ := hA.rk.blk rfl
  obtain ⟨cur2, hb2⟩ := hA.rv.blk rfl
  have f1 := blk_frozen hb1 i
  have f2 := blk_frozen hb2 i
  have hw3 : (0 : Int) ≤ (L : Int) - 1 := by omega
  have hw6 : 1 ≤ (L : Int) := by omega
  have hg1 : ¬ gk = gv := blk_ne hb1 hb2 (by decide)
  have hg2 : ¬ gv = gk := fun e => hg1 e.symm
  have hw4 : (L : Int) - 1 < (L : Int) := by omega
  have hw5 : ((L : Int) - 1).toNat = L - 1 := by omega
  have HA := Lib.hid hA
  have HX := Lib.hid hX
  clear hA hX hb1 hb2
  go_region
  all_goals
    apply hQ
    obtain ⟨hA5, hU5⟩ := HA.out.kset HS.out.up.fb i ke (HX.out.ok ke (List.mem_of_getElem? hke))
    obtain ⟨hA6, hU6⟩ := hA5.vset hU5.fb i ve
    exact ⟨_, Lib.hid ((HS.out.stepA HF.out hax hay hA5 hU5).stepA HF.out hax hay hA6 hU6).drew⟩
noncomputable def shR_5_code : Code := ((Try.f107.body.bind (findRg 5)).getD .skip)
set_option maxRecDepth 1000000 in
set_option maxHeartbeats 8000000 in
theorem shR_5 (a x y _i : Nat) (w : World) (o : Nat → Nat) (FA FX FY : Nf Ky) (HF : Hid (Fb o w)) (hax : a ≠ x) (_hay : a ≠ y) (hxy : x ≠ y) (L : Nat) (hL : FX.ks.length = L) (hL2 : FX.vs.length = L) (hL1 : 0 < L) (hL3 : L ≤ 1000) (ke : Ky) (ve : Int) (hke : FX.ks[L - 1]? = some ke) (hve : FX.vs[L - 1]? = some ve) (wc : World) (oc : Nat → Nat) (HS : Hid (Th w o a x y FA FX FY wc oc)) {Q : Exit → Act → World → Prop} (t0 t1 t2 t3 t4 t5 t7 t9 t10 t11 t12 t13 t14 t15 t16 t17 t18 t19 t20 t21 t22 t23 t24 t25 t26 t27 t28 t29 t30 t31 t32 t33 t34 t35 t36 t37 t38 t39 t40 t41 t42 t43 t44 t45 t46 t47 t48 t49 t50 t51 t52 t53 t54 t55 t56 t57 t58 t59 t60 t61 t62 t63 t64 t65 t66 t67 t68 t69 t70 t71 t72 t73 t74 t75 t76 t77 t78 t79 t80 t81 t82 t83 t84 t85 t86 t87 t88 t89 t90 t91 t92 t93 t94 t95 t96 t97 t98 t99 t100 t101 t102 t103 t104 t105 t106 t107 t108 t109 t110 t111 t112 t113 t114 t115 t116 t117 t118 t119 t120 t121 t122 t123 t124 t125 t126 t127 t128 t129 t130 t131 t132 t133 t134 t135 t136 t137 t138 t139 t140 t141 t142 t143 t144 t145 t146 t147 t148 t149 t150 t151 t152 t153 t154 t155 t156 t157 t158 t159 t160 t161 t162 t163 t164 t165 t166 t167 t168 t169 t170 t171 t172 t173 t174 t175 t176 t177 t178 t179 t180 t181 t182 t183 t184 t185 t186 t187 t188 t189 t190 t191 t192 t193 t194 t195 t196 t197 t198 t199 t200 t201 t202 t203 t204 t205 t206 t207 t208 t209 t210 t211 t212 t213 t214 t215 t216 t217 t218 t219 t220 t221 t222 t223 t224 t225 t226 t227 t228 t229 t230 t231 t232 t233 t234 t235 t236 t237 t238 t239 t240 : Value) (hQ : ∀ (u89 u90 u91 u92 u93 u94 u95 u96 u97 u98 u99 u100 u101 u102 u103 u104 u105 u106 : Value) (w' : World), (∃ oc4, Hid (Th w o a x y FA ⟨FX.ks.take (L - 1), FX.vs.take (L - 1), FX.cs⟩ FY w' oc4)) → Q .normal ⟨(t0 :: t1 :: t2 :: t3 :: t4 :: t5 :: .pointer (some ⟨x, 0, none⟩) :: t7 :: .int .i64 ((L : Int) - 1) :: t9 :: t10 :: t11 :: t12 :: t13 :: t14 :: t15 :: t16 :: t17 :: t18 :: t19 :: t20 :: t21 :: t22 :: t23 :: t24 :: t25 :: t26 :: t27 :: t28 :: t29 :: t30 :: t31 :: t32 :: t33 :: t34 :: t35 :: t36 :: t37 :: t38 :: t39 :: t40 :: t41 :: t42 :: t43 :: t44 :: t45 :: t46 :: t47 :: t48 :: t49 :: t50 :: t51 :: t52 :: t53 :: t54 :: t55 :: t56 :: t57 :: t58 :: t59 :: t60 :: t61 :: t62 :: t63 :: t64 :: t65 :: t66 :: t67 :: t68 :: t69 :: t70 :: t71 :: t72 :: t73 :: t74 :: t75 :: t76 :: t77 :: t78 :: t79 :: t80 :: t81 :: t82 :: t83 :: t84 :: t85 :: t86 :: t87 :: t88 :: u89 :: u90 :: u91 :: u92 :: u93 :: u94 :: u95 :: u96 :: u97 :: u98 :: u99 :: u100 :: u101 :: u102 :: u103 :: u104 :: u105 :: u106 :: t107 :: t108 :: t109 :: t110 :: t111 :: t112 :: t113 :: t114 :: t115 :: t116 :: t117 :: t118 :: t119 :: t120 :: t121 :: t122 :: t123 :: t124 :: t125 :: t126 :: t127 :: t128 :: t129 :: t130 :: t131 :: t132 :: t133 :: t134 :: t135 :: t136 :: t137 :: t138 :: t139 :: t140 :: t141 :: t142 :: t143 :: t144 :: t145 :: t146 :: t147 :: t148 :: t149 :: t150 :: t151 :: t152 :: t153 :: t154 :: t155 :: t156 :: t157 :: t158 :: t159 :: t160 :: t161 :: t162 :: t163 :: t164 :: t165 :: t166 :: t167 :: t168 :: t169 :: t170 :: t171 :: t172 :: t173 :: t174 :: t175 :: t176 :: t177 :: t178 :: t179 :: t180 :: t181 :: t182 :: t183 :: t184 :: t185 :: t186 :: t187 :: t188 :: t189 :: t190 :: t191 :: t192 :: t193 :: t194 :: t195 :: t196 :: t197 :: t198 :: t199 :: t200 :: t201 :: t202 :: t203 :: t204 :: t205 :: t206 :: t207 :: t208 :: t209 :: t210 :: t211 :: t212 :: t213 :: t214 :: t215 :: t216 :: t217 :: t218 :: t219 :: t220 :: t221 :: t222 :: t223 :: t224 :: t225 :: t226 :: t227 :: t228 :: t229 :: t230 :: t231 :: t232 :: t233 :: t234 :: t235 :: t236 :: t237 :: t238 :: t239 :: t240 :: []).toArray, []⟩ w') :
    Code.wp Try.prog shR_5_code Q ⟨(t0 :: t1 :: t2 :: t3 :: t4 :: t5 :: .pointer (some ⟨x, 0, none⟩) :: t7 :: .int .i64 ((L : Int) - 1) :: t9 :: t10 :: t11 :: t12 :: t13 :: t14 :: t15 :: t16 :: t17 :: t18 :: t19 :: t20 :: t21 :: t22 :: t23 :: t24 :: t25 :: t26 :: t27 :: t28 :: t29 :: t30 :: t31 :: t32 :: t33 :: t34 :: t35 :: t36 :: t37 :: t38 :: t39 :: t40 :: t41 :: t42 :: t43 :: t44 :: t45 :: t46 :: t47 :: t48 :: t49 :: t50 :: t51 :: t52 :: t53 :: t54 :: t55 :: t56 :: t57 :: t58 :: t59 :: t60 :: t61 :: t62 :: t63 :: t64 :: t65 :: t66 :: t67 :: t68 :: t69 :: t70 :: t71 :: t72 :: t73 :: t74 :: t75 :: t76 :: t77 :: t78 :: t79 :: t80 :: t81 :: t82 :: t83 :: t84 :: t85 :: t86 :: t87 :: t88 :: t89 :: t90 :: t91 :: t92 :: t93 :: t94 :: t95 :: t96 :: t97 :: t98 :: t99 :: t100 :: t101 :: t102 :: t103 :: t104 :: t105 :: t106 :: t107 :: t108 :: t109 :: t110 :: t111 :: t112 :: t113 :: t114 :: t115 :: t116 :: t117 :: t118 :: t119 :: t120 :: t121 :: t122 :: t123 :: t124 :: t125 :: t126 :: t127 :: t128 :: t129 :: t130 :: t131 :: t132 :: t133 :: t134 :: t135 :: t136 :: t137 :: t138 :: t139 :: t140 :: t141 :: t142 :: t143 :: t144 :: t145 :: t146 :: t147 :: t148 :: t149 :: t150 :: t151 :: t152 :: t153 :: t154 :: t155 :: t156 :: t157 :: t158 :: t159 :: t160 :: t161 :: t162 :: t163 :: t164 :: t165 :: t166 :: t167 :: t168 :: t169 :: t170 :: t171 :: t172 :: t173 :: t174 :: t175 :: t176 :: t177 :: t178 :: t179 :: t180 :: t181 :: t182 :: t183 :: t184 :: t185 :: t186 :: t187 :: t188 :: t189 :: t190 :: t191 :: t192 :: t193 :: t194 :: t195 :: t196 :: t197 :: t198 :: t199 :: t200 :: t201 :: t202 :: t203 :: t204 :: t205 :: t206 :: t207 :: t208 :: t209 :: t210 :: t211 :: t212 :: t213 :: t214 :: t215 :: t216 :: t217 :: t218 :: t219 :: t220 :: t221 :: t222 :: t223 :: t224 :: t225 :: t226 :: t227 :: t228 :: t229 :: t230 :: t231 :: t232 :: t233 :: t234 :: t235 :: t236 :: t237 :: t238 :: t239 :: t240 :: []).toArray, []⟩ wc := by
  refine wp_onN ?_
  conv => arg 2; whnf
  obtain ⟨xk, xv, xc, hX⟩ := HS.out.nx
  obtain ⟨hk, d1, hv, d2, rfl, rfl, l1, l2, -, -⟩ := hX.rows hke hve
  obtain ⟨x0, x1, -⟩ := hX.cells
  rw [hL] at x0
  rw [hL2] at x1
  have f1 := blk_frozen hX.blk 0
  have f2 := blk_frozen hX.blk 1
  have hw3 : (0 : Int) ≤ (L : Int) - 1 := by omega
  have hw6 : 1 ≤ (L : Int) := by omega
  have hw4 : (L : Int) - 1 ≤ (d1 : Int) := by omega
  have hw7 : (L : Int) - 1 ≤ (d2 : Int) := by omega
  have hw5 : ((L : Int) - 1).toNat = L - 1 := by omega
  have HX := Lib.hid hX
  clear hX
  go_region
  all_goals
    apply hQ
    have hs1 := ksR_short HX.out.rk rfl (L - 1) d1 (by omega) (by omega) (Nat.le_refl _)
    obtain ⟨hX6, hU6⟩ := HX.out.sk (v' := .slice (some ⟨hk, 0, none⟩) (L - 1) d1) (mid_plain HS.out.up.fb (Below.refl _ _) (below_grown (Below.refl _ _) _) (.inl rfl)) hs1 (fun k hk => .inl (List.mem_of_mem_take hk))
    have hs2 := vsR_short hX6.rv rfl (L - 1) d2 (by show L - 1 ≤ FX.vs.length; omega) (by omega) (Nat.le_refl _)
    obtain ⟨hX7, hU7⟩ := hX6.sv (v' := .slice (some ⟨hv, 0, none⟩) (L - 1) d2) (mid_plain hU6.fb (Below.refl _ _) (below_grown (Below.refl _ _) _) (.inl rfl)) hs2
    exact ⟨_, Lib.hid ((HS.out.stepX HF.out hax hxy hX6 hU6).stepX HF.out hax hxy hX7 hU7).drew⟩
noncomputable def shR_8_code : Code := ((Try.f107.body.bind (findRg 8)).getD .skip)
set_option maxRecDepth 1000000 in
set_option maxHeartbeats 8000000 in
theorem shR_8 (a x y _i : Nat) (w : World) (o : Nat → Nat) (FA FX FY : Nf Ky) (HF : Hid (Fb o w)) (_hax : a ≠ x) (hay : a ≠ y) (hxy : x ≠ y) (hlyc : FY.cs.length ≤ 1000) (C : Nat) (hC : C = FX.cs.length) (hlc : C ≤ 1001) (hz : ¬ C = 0) (ce : Nat) (hce : FX.cs[C - 1]? = some ce) (wc : World) (oc : Nat → Nat) (HS : Hid (Th w o a x y FA FX FY wc oc)) {Q : Exit → Act → World → Prop} (t0 t1 t2 t3 t4 t5 t9 t10 t11 t12 t13 t14 t15 t16 t17 t18 t19 t20 t21 t22 t23 t24 t25 t26 t27 t28 t29 t30 t31 t32 t33 t34 t35 t36 t37 t38 t39 t40 t41 t42 t43 t44 t45 t46 t47 t48 t49 t50 t51 t52 t53 t54 t55 t56 t57 t58 t59 t60 t61 t62 t63 t64 t65 t66 t67 t68 t69 t70 t71 t72 t73 t74 t75 t76 t77 t78 t79 t80 t81 t82 t83 t84 t85 t86 t87 t88 t89 t90 t91 t92 t93 t94 t95 t96 t97 t98 t99 t100 t101 t102 t103 t104 t105 t106 t107 t108 t109 t110 t111 t112 t113 t114 t115 t116 t117 t118 t119 t120 t121 t122 t123 t124 t125 t126 t127 t128 t129 t130 t131 t132 t133 t134 t135 t136 t137 t138 t139 t140 t141 t142 t143 t144 t145 t146 t147 t148 t149 t150 t151 t152 t153 t154 t155 t156 t157 t158 t159 t160 t161 t162 t163 t164 t165 t166 t167 t168 t169 t170 t171 t172 t173 t174 t175 t176 t177 t178 t179 t180 t181 t182 t183 t184 t185 t186 t187 t188 t189 t190 t191 t192 t193 t194 t195 t196 t197 t198 t199 t200 t201 t202 t203 t204 t205 t206 t207 t208 t209 t210 t211 t212 t213 t214 t215 t216 t217 t218 t219 t220 t221 t222 t223 t224 t225 t226 t227 t228 t229 t230 t231 t232 t233 t234 t235 t236 t237 t238 t239 t240 : Value) (hQ : ∀ (u115 u116 u117 u118 u119 u120 u121 u122 u123 u124 u125 u126 u127 u128 u129 u130 : Value) (w' : World), (∃ oc5, Hid (Th w o a x y FA FX ⟨FY.ks, FY.vs, ce :: FY.cs⟩ w' oc5)) → Q .normal ⟨(t0 :: t1 :: t2 :: t3 :: t4 :: t5 :: .pointer (some ⟨x, 0, none⟩) :: .pointer (some ⟨y, 0, none⟩) :: .int .i64 ((C : Int) - 1) :: t9 :: t10 :: t11 :: t12 :: t13 :: t14 :: t15 :: t16 :: t17 :: t18 :: t19 :: t20 :: t21 :: t22 :: t23 :: t24 :: t25 :: t26 :: t27 :: t28 :: t29 :: t30 :: t31 :: t32 :: t33 :: t34 :: t35 :: t36 :: t37 :: t38 :: t39 :: t40 :: t41 :: t42 :: t43 :: t44 :: t45 :: t46 :: t47 :: t48 :: t49 :: t50 :: t51 :: t52 :: t53 :: t54 :: t55 :: t56 :: t57 :: t58 :: t59 :: t60 :: t61 :: t62 :: t63 :: t64 :: t65 :: t66 :: t67 :: t68 :: t69 :: t70 :: t71 :: t72 :: t73 :: t74 :: t75 :: t76 :: t77 :: t78 :: t79 :: t80 :: t81 :: t82 :: t83 :: t84 :: t85 :: t86 :: t87 :: t88 :: t89 :: t90 :: t91 :: t92 :: t93 :: t94 :: t95 :: t96 :: t97 :: t98 :: t99 :: t100 :: t101 :: t102 :: t103 :: t104 :: t105 :: t106 :: t107 :: t108 :: t109 :: t110 :: t111 :: t112 :: t113 :: t114 :: u115 :: u116 :: u117 :: u118 :: u119 :: u120 :: u121 :: u122 :: u123 :: u124 :: u125 :: u126 :: u127 :: u128 :: u129 :: u130 :: t131 :: t132 :: t133 :: t134 :: t135 :: t136 :: t137 :: t138 :: t139 :: t140 :: t141 :: t142 :: t143 :: t144 :: t145 :: t146 :: t147 :: t148 :: t149 :: t150 :: t151 :: t152 :: t153 :: t154 :: t155 :: t156 :: t157 :: t158 :: t159 :: t160 :: t161 :: t162 :: t163 :: t164 :: t165 :: t166 :: t167 :: t168 :: t169 :: t170 :: t171 :: t172 :: t173 :: t174 :: t175 :: t176 :: t177 :: t178 :: t179 :: t180 :: t181 :: t182 :: t183 :: t184 :: t185 :: t186 :: t187 :: t188 :: t189 :: t190 :: t191 :: t192 :: t193 :: t194 :: t195 :: t196 :: t197 :: t198 :: t199 :: t200 :: t201 :: t202 :: t203 :: t204 :: t205 :: t206 :: t207 :: t208 :: t209 :: t210 :: t211 :: t212 :: t213 :: t214 :: t215 :: t216 :: t217 :: t218 :: t219 :: t220 :: t221 :: t222 :: t223 :: t224 :: t225 :: t226 :: t227 :: t228 :: t229 :: t230 :: t231 :: t232 :: t233 :: t234 :: t235 :: t236 :: t237 :: t238 :: t239 :: t240 :: []).toArray, []⟩ w') :
    Code.wp Try.prog shR_8_code Q ⟨(t0 :: t1 :: t2 :: t3 :: t4 :: t5 :: .pointer (some ⟨x, 0, none⟩) :: .pointer (some ⟨y, 0, none⟩) :: .int .i64 ((C : Int) - 1) :: t9 :: t10 :: t11 :: t12 :: t13 :: t14 :: t15 :: t16 :: t17 :: t18 :: t19 :: t20 :: t21 :: t22 :: t23 :: t24 :: t25 :: t26 :: t27 :: t28 :: t29 :: t30 :: t31 :: t32 :: t33 :: t34 :: t35 :: t36 :: t37 :: t38 :: t39 :: t40 :: t41 :: t42 :: t43 :: t44 :: t45 :: t46 :: t47 :: t48 :: t49 :: t50 :: t51 :: t52 :: t53 :: t54 :: t55 :: t56 :: t57 :: t58 :: t59 :: t60 :: t61 :: t62 :: t63 :: t64 :: t65 :: t66 :: t67 :: t68 :: t69 :: t70 :: t71 :: t72 :: t73 :: t74 :: t75 :: t76 :: t77 :: t78 :: t79 :: t80 :: t81 :: t82 :: t83 :: t84 :: t85 :: t86 :: t87 :: t88 :: t89 :: t90 :: t91 :: t92 :: t93 :: t94 :: t95 :: t96 :: t97 :: t98 :: t99 :: t100 :: t101 :: t102 :: t103 :: t104 :: t105 :: t106 :: t107 :: t108 :: t109 :: t110 :: t111 :: t112 :: t113 :: t114 :: t115 :: t116 :: t117 :: t118 :: t119 :: t120 :: t121 :: t122 :: t123 :: t124 :: t125 :: t126 :: t127 :: t128 :: t129 :: t130 :: t131 :: t132 :: t133 :: t134 :: t135 :: t136 :: t137 :: t138 :: t139 :: t140 :: t141 :: t142 :: t143 :: t144 :: t145 :: t146 :: t147 :: t148 :: t149 :: t150 :: t151 :: t152 :: t153 :: t154 :: t155 :: t156 :: t157 :: t158 :: t159 :: t160 :: t161 :: t162 :: t163 :: t164 :: t165 :: t166 :: t167 :: t168 :: t169 :: t170 :: t171 :: t172 :: t173 :: t174 :: t175 :: t176 :: t177 :: t178 :: t179 :: t180 :: t181 :: t182 :: t183 :: t184 :: t185 :: t186 :: t187 :: t188 :: t189 :: t190 :: t191 :: t192 :: t193 :: t194 :: t195 :: t196 :: t197 :: t198 :: t199 :: t200 :: t201 :: t202 :: t203 :: t204 :: t205 :: t206 :: t207 :: t208 :: t209 :: t210 :: t211 :: t212 :: t213 :: t214 :: t215 :: t216 :: t217 :: t218 :: t219 :: t220 :: t221 :: t222 :: t223 :: t224 :: t225 :: t226 :: t227 :: t228 :: t229 :: t230 :: t231 :: t232 :: t233 :: t234 :: t235 :: t236 :: t237 :: t238 :: t239 :: t240 :: []).toArray, []⟩ wc := by
  refine wp_onN ?_
  conv => arg 2; whnf
  obtain ⟨xk, xv, xc, hX⟩ := HS.out.nx
  obtain ⟨B1, d1, B2, d2, B3, d3, rfl, rfl, rfl, -, -, -⟩ := hX.row
  have hlx : C - 1 < FX.cs.length := by omega
  obtain ⟨gx, rfl, -, -⟩ := hX.ccell (i := C - 1) hlx
  have HX := Lib.hid hX
  have HC := Lib.hid hC
  have HCE := Lib.hid hce
  have hz1 : ¬ (C : Int) = 0 := by omega
  have hz2 : (0 : Int) ≤ (C : Int) - 1 := by omega
  have hz3 : 1 ≤ (C : Int) := by omega
  have hz4 : (C : Int) - 1 < (C : Int) := by omega
  have hz5 : ((C : Int) - 1).toNat = C - 1 := by omega
  have hz6 : 0 < C := by omega
  clear hX hC hce hlx
  obtain ⟨yk, yv, yc, hY⟩ := HS.out.ny
  obtain ⟨E1, e1, E2, e2, E3, e3, rfl, rfl, rfl, -⟩ := hY.row
  have HKI := Lib.hid (show ∀ V, Below wc.heap.size wc V → ∀ gv, V.heap[gv]? = some (.cells #[.pointer (some ⟨ce, 0, none⟩)] 100 (0, 0)) → wc.heap.size ≤ gv → Calls Try.prog 89 #[.slice E3 FY.cs.length e3, .int .i64 0, .slice (some ⟨gv, 0, none⟩) 1 1] V fun e w2 => ∃ v', e = .returned v' ∧ Rw w2 100 v' (csR (ce :: FY.cs)) ∧ V.grownBy w2 (Value.slice E3 FY.cs.length e3).ownBlock ∧ Nw wc (.slice E3 FY.cs.length e3) v' from fun V hb gv hv hq => kid_insW hY (by show FY.cs.length ≤ _; omega) (i := 0) (Nat.zero_le _) ce hb gv hv hq)
  have HSK := Lib.hid (show ∀ V, wc.grownBy V (Value.slice E3 FY.cs.length e3).ownBlock → V.cell? ⟨y, 2, none⟩ = some (.slice E3 FY.cs.length e3) ∧ V.cell? ⟨x, 2, none⟩ = some (.slice (some ⟨gx, 0, none⟩) C d3) ∧ V.cell? ⟨gx, C - 1, none⟩ = some (.pointer (some ⟨ce, 0, none⟩)) from fun V hg => by
    have h1 := (hY.hold hg hY.nek.2.2).2.2.1
    have h2 := hY.apart HX.out (fun e => hxy e.symm) (fun g e _ => hY.tc g e) hg
    have h3 := h2.cells.2.2
    obtain ⟨g', e', h4, -⟩ := h2.ccell (i := C - 1) (by show C - 1 < FX.cs.length; have := HC.out; omega)
    cases e'
    have h5 := HCE.out
    rw [List.getElem?_eq_getElem (by have := HC.out; omega), Option.some.injEq] at h5
    refine ⟨h1, by rw [HC.out]; exact h3, ?_⟩
    rw [← h5]
    exact h4)
  have HYN := Lib.hid hY
  clear hY
  refine wp_region_Y1 (by kernel_rfl) ?_
  intro V hV
  refine wpY_take (i := 0) (v := ?_) [] rfl (by kernel_rfl) (by kernel_rfl) (by kernel_rfl) (by kernel_rfl) (fun _ _ _ h => h) (Or.inl ⟨by rfl, ?_⟩) trivial ?_
  rotate_left
  · (intro wS hSw; (try dsimp only at hSw); go_simp; (try (with_reducible rfl)))
  try simp only [Act.put, List.setIfInBounds_toArray]
  refine wpY_take (i := 1) (v := ?_) [] rfl (by kernel_rfl) (by kernel_rfl) (by kernel_rfl) (by kernel_rfl) (fun _ _ _ h => h) (Or.inl ⟨by rfl, ?_⟩) trivial ?_
  rotate_left
  · (intro wS hSw; (try dsimp only at hSw); go_simp; (try (with_reducible rfl)))
  try simp only [Act.put]
  refine wpY_take (i := 2) (v := ?_) [] rfl (by kernel_rfl) (by kernel_rfl) (by kernel_rfl) (by kernel_rfl) (fun _ _ _ h => h) (Or.inl ⟨by rfl, ?_⟩) trivial ?_
  rotate_left
  · (intro wS hSw; (try dsimp only at hSw); go_simp; (try (with_reducible rfl)))
  try simp only [Act.put]
  refine wpY_take (i := 3) (v := ?_) [] rfl (by kernel_rfl) (by kernel_rfl) (by kernel_rfl) (by kernel_rfl) (fun _ _ _ h => h) (Or.inl ⟨by rfl, ?_⟩) trivial ?_
  rotate_left
  · (intro wS hSw; (try dsimp only at hSw); go_simp; (try (with_reducible rfl)))
  try simp only [Act.put]
  refine wpY_take (i := 5) (v := ?_) [] rfl (by kernel_rfl) (by kernel_rfl) (by kernel_rfl) (by kernel_rfl) (fun _ _ _ h => h) (Or.inl ⟨by rfl, ?_⟩) trivial ?_
  rotate_left
  · (intro wS hSw; (try dsimp only at hSw); go_simp; (try (with_reducible rfl)))
  try simp only [Act.put]
  refine wpY_take (i := 6) (v := ?_) [] rfl (by kernel_rfl) (by kernel_rfl) (by kernel_rfl) (by kernel_rfl) (fun _ _ _ h => h) (Or.inl ⟨by rfl, ?_⟩) trivial ?_
  rotate_left
  · (intro wS hSw; (try dsimp only at hSw); go_simp; (try (with_reducible rfl)))
  try simp only [Act.put]
  refine wpY_take (i := 7) (v := ?_) [] rfl (by kernel_rfl) (by kernel_rfl) (by kernel_rfl) (by kernel_rfl) (fun _ _ _ h => h) (Or.inl ⟨by rfl, ?_⟩) trivial ?_
  rotate_left
  · (intro wS hSw; (try dsimp only at hSw); go_simp; (try (with_reducible rfl)))
  try simp only [Act.put]
  refine wpY_take (i := 9) (v := ?_) [] rfl (by kernel_rfl) (by kernel_rfl) (by kernel_rfl) (by kernel_rfl) (fun _ _ _ h => h) (Or.inl ⟨by rfl, ?_⟩) trivial ?_
  rotate_left
  · (intro wS hSw; (try dsimp only at hSw); go_simp; (try (with_reducible rfl)))
  try simp only [Act.put]
  have HB := Lib.hid (show Below wc.heap.size wc V from by rw [hV]; exact (Below.refl _ _).drew)
  clear hV
  have HG := Lib.hid (show wc.grownBy V (Value.slice E3 FY.cs.length e3).ownBlock from below_grown HB.out _)
  have hS0 := HSK.out V HG.out
  refine wpY_swap ((fun W' => W'.cell? ⟨y, 2, none⟩ = some (.slice E3 FY.cs.length e3) ∧ W'.cell? ⟨x, 2, none⟩ = some (.slice (some ⟨gx, 0, none⟩) C d3) ∧ W'.cell? ⟨gx, C - 1, none⟩ = some (.pointer (some ⟨ce, 0, none⟩)))) [14, 15, 16] ?_
  refine wpY_take (i := 4) (v := ?_) [[14], [15], [16]] rfl (by kernel_rfl) (by kernel_rfl) (by kernel_rfl) (by kernel_rfl) (fun _ _ _ h => h) (Or.inl ⟨by rfl, ?_⟩) (by assumption) ?_
  rotate_left
  · (intro wS hSw; (try dsimp only at hSw); go_simp; (try (with_reducible rfl)))
  try simp only [Act.put]
  refine wpY_take (i := 8) (v := ?_) [[14], [15], [16]] rfl (by kernel_rfl) (by kernel_rfl) (by kernel_rfl) (by kernel_rfl) (fun _ _ _ h => h) (Or.inl ⟨by rfl, ?_⟩) (by assumption) ?_
  rotate_left
  · (intro wS hSw; (try dsimp only at hSw); go_simp; (try (with_reducible rfl)))
  try simp only [Act.put]
  refine wpY_take (i := 10) (v := ?_) [[14], [15], [16]] rfl (by kernel_rfl) (by kernel_rfl) (by kernel_rfl) (by kernel_rfl) (fun _ _ _ h => h) (Or.inl ⟨by rfl, ?_⟩) (by assumption) ?_
  rotate_left
  · (intro wS hSw; (try dsimp only at hSw); go_simp; (try (with_reducible rfl)))
  try simp only [Act.put]
  refine wpY_take (i := 11) (v := ?_) [[14], [15], [16]] rfl (by kernel_rfl) (by kernel_rfl) (by kernel_rfl) (by kernel_rfl) (fun _ _ _ h => h) (Or.inl ⟨by rfl, ?_⟩) (by assumption) ?_
  rotate_left
  · (intro wS hSw; (try dsimp only at hSw); go_simp; (try (with_reducible rfl)))
  try simp only [Act.put]
  refine wpY_one (i := 12) (by kernel_rfl) rfl (fun K hK => ?_)
  go_simp
  have H12 := Lib.hid (top_blk V #[.pointer (some ⟨ce, 0, none⟩)] 100)
  have HQ12 := Lib.hid (show wc.heap.size ≤ V.heap.size from HG.out.size)
  have HB := Lib.hid (HB.out.alloc HB.out.size (.cells #[.pointer (some ⟨ce, 0, none⟩)] 100))
  have HG := Lib.hid (grown_alloc HG.out (.cells #[.pointer (some ⟨ce, 0, none⟩)] 100))
  refine letK ?_
  intro V hV
  rw [← hV] at H12 HB HG
  clear hV
  refine hK.out _ _ (.inr (HSK.out _ HG.out)) ?_
  clear hK K
  try simp only [Act.put, List.setIfInBounds_toArray, List.set_cons_zero, List.set_cons_succ]
  refine wpY_one (i := 13) (by kernel_rfl) rfl (fun K hK => ?_)
  go_simp
  refine (HKI.out V HB.out _ H12.out HQ12.out).mono ?_
  rintro e V ⟨vc', rfl, hr2, hg2, hn2⟩
  obtain ⟨Ac, lc, cc, rfl⟩ := rw_slice hr2
  have HG := Lib.hid (HG.out.trans hg2)
  obtain ⟨-, -, f2, f3⟩ := HYN.out.hold HG.out HYN.out.nek.2.2
  have f32 := f3 2
  clear f3
  refine hK.out _ _ (.inr (HSK.out _ HG.out)) ?_
  clear hK K
  try simp only [Act.put, List.setIfInBounds_toArray, List.set_cons_zero, List.set_cons_succ]
  refine wpY_one (i := 14) (by kernel_rfl) rfl (fun K hK => ?_)
  go_simp
  refine hK.out _ _ (.inl (by decide)) ?_
  clear hK K
  try simp only [Act.put, List.setIfInBounds_toArray, List.set_cons_zero, List.set_cons_succ]
  refine wpY_one (i := 15) (by kernel_rfl) rfl (fun K hK => ?_)
  go_simp
  refine hK.out _ _ (.inl (by decide)) ?_
  clear hK K
  try simp only [Act.put, List.setIfInBounds_toArray, List.set_cons_zero, List.set_cons_succ]
  refine wpY_one (i := 16) (by kernel_rfl) rfl (fun K hK => ?_)
  go_simp
  refine hK.out _ _ (.inl (by decide)) ?_
  clear hK K
  try simp only [Act.put, List.setIfInBounds_toArray, List.set_cons_zero, List.set_cons_succ]
  refine wpY_done (by kernel_rfl) ?_ _
  apply hQ
  obtain ⟨hY5, hU5⟩ := HYN.out.sc (mid_plain HS.out.up.fb (Below.refl _ _) HG.out hn2) hr2
  exact ⟨_, Lib.hid (HS.out.stepY HF.out hay hxy hY5 hU5)⟩
set_option maxRecDepth 100000 in
set_option maxHeartbeats 8000000 in
theorem shiftR_any (a x y i L : Nat) (w : World) (o : Nat → Nat) (FA FX FY : Nf Ky) (hf : Fb o w) (ha : NdE w o a FA) (hx : NdE w o x FX) (hy : NdE w o y FY) (hax : a ≠ x) (hay : a ≠ y) (hxy : x ≠ y)
    (hix : FA.cs[i]? = some x) (hiy : FA.cs[i + 1]? = some y) (hla : FA.cs.length ≤ 1000) (hL : FX.ks.length = L) (hL2 : FX.vs.length = L) (hL1 : 0 < L) (hL3 : L ≤ 1000) (hly : FY.ks.length ≤ 1000) (hlyv : FY.vs.length ≤ 1000) (hlyc : FY.cs.length ≤ 1000) (hlxc : FX.cs.length ≤ 1001) (ka ke : Ky) (va ve : Int) (hka : FA.ks[i]? = some ka) (hva : FA.vs[i]? = some va) (hke : FX.ks[L - 1]? = some ke) (hve : FX.vs[L - 1]? = some ve) :
    Calls Try.prog 107 #[nv a, .int .i64 i, .bool true] w (ShiftRP w o a x y FA FX FY i ka ke va ve) := by
  have HT := Lib.hid (Th.start hf ha hx hy)
  obtain ⟨ak, av, ac, hA⟩ := ha
  obtain ⟨xk, xv, xc, hX⟩ := hx
  obtain ⟨-, -, ca2⟩ := hA.cells
  obtain ⟨cx0, -, -⟩ := hX.cells
  obtain ⟨A1, c1, A2, c2, A3, c3, rfl, rfl, rfl, -, -, -⟩ := hA.row
  obtain ⟨B1, d1, B2, d2, B3, d3, rfl, rfl, rfl, -, -, -⟩ := hX.row
  have hil : i < FA.cs.length := (List.getElem?_eq_some_iff.1 hix).1
  have hil2 : i + 1 < FA.cs.length := (List.getElem?_eq_some_iff.1 hiy).1
  obtain ⟨gc, rfl, hc1, -⟩ := hA.ccell hil
  obtain ⟨gc', e0, hc2, -⟩ := hA.ccell hil2
  cases e0
  rw [List.getElem?_eq_getElem hil, Option.some.injEq] at hix
  rw [List.getElem?_eq_getElem hil2, Option.some.injEq] at hiy
  rw [hix] at hc1
  rw [hiy] at hc2
  rw [hL] at cx0
  have hi1 : (i : Int) < (FA.cs.length : Int) := by omega
  have hi2 : (i : Int) + 1 < (FA.cs.length : Int) := by omega
  have hw1 : IntKind.i64.wrap ((i : Int) + 1) = (i : Int) + 1 := by rw [IntKind.wrap_i64]; omega
  have hw2 : (0 : Int) ≤ (i : Int) + 1 := by omega
  have hw8 : ((i : Int) + 1).toNat = i + 1 := by omega
  have HF := Lib.hid hf
  clear hA hX hix hiy hf
  unfold nv at *
  go_enter Try.func107, Try.ntmps107
  go_wp2_with fail
  go_quiet (fail)
  go_wp2_with fail
  obtain ⟨wc, hwc⟩ : ∃ wc, wc = w.drewN nq := ⟨_, rfl⟩
  rw [← hwc]
  have HS := Lib.hid (show Th w o a x y FA FX FY wc o from by rw [hwc]; exact HT.out.drewN nq)
  clear hwc cx0 ca2 hc1 hc2 HT hw1 hw2 hw8 hi1 hi2 hil hil2 hy
  go_cut [] (fun wc3 => ∃ oc3, Hid (Th w o a x y FA FX ⟨ka :: FY.ks, va :: FY.vs, FY.cs⟩ wc3 oc3))
  case first =>
    refine shR_3 a x y i w o FA FX FY HF hax hay hxy hly hlyv ka va hka hva wc _ HS _ _ _ _ _ _ _ _ _ _ _ _ _ _ _ _ _ _ _ _ _ _ _ _ _ _ _ _ _ _ _ _ _ _ _ _ _ _ _ _ _ _ _ _ _ _ _ _ _ _ _ _ _ _ _ _ _ _ _ _ _ _ _ _ _ _ _ _ _ _ _ _ _ _ _ _ _ _ _ _ _ _ _ _ _ _ _ _ _ _ _ _ _ _ _ _ _ _ _ _ _ _ _ _ _ _ _ _ _ _ _ _ _ _ _ _ _ _ _ _ _ _ _ _ _ _ _ _ _ _ _ _ _ _ _ _ _ _ _ _ _ _ _ _ _ _ _ _ _ _ _ _ _ _ _ _ _ _ _ _ _ _ _ _ _ _ _ _ _ _ _ _ _ _ _ _ _ _ _ _ _ _ _ _ _ _ _ _ _ _ _ _ _ _ _ _ _ _ _ _ _ _ _ _ _ _ _ _ _ _ _ _ _ _ _ _ _ _ _ _ _ _ _ _ _ _ _ _ _ _ _ _ _ _ _ _ _ ?_
    intro _ _ _ _ _ _ _ _ _ _ _ _ _ _ _ _ _ _ _ _ _ _ _ _ _ _ _ _ _ _ _ _ w' hrel'
    go_wp2_with fail
    go_meet
    case rel => exact hrel'
  case rest =>
    clear HS
    obtain ⟨oc3, HS⟩ := hcut
    go_upto_region 4 with (fail)
    go_cut [] (fun wc4 => ∃ oc4, Hid (Th w o a x y ⟨FA.ks.set i ke, FA.vs.set i ve, FA.cs⟩ FX ⟨ka :: FY.ks, va :: FY.vs, FY.cs⟩ wc4 oc4))
    case first =>
      refine shR_4 a x y i w o FA FX _ HF hax hay hxy L hL hL2 hL1 hL3 ka ke va ve hka hva hke hve wc _ HS _ _ _ _ _ _ _ _ _ _ _ _ _ _ _ _ _ _ _ _ _ _ _ _ _ _ _ _ _ _ _ _ _ _ _ _ _ _ _ _ _ _ _ _ _ _ _ _ _ _ _ _ _ _ _ _ _ _ _ _ _ _ _ _ _ _ _ _ _ _ _ _ _ _ _ _ _ _ _ _ _ _ _ _ _ _ _ _ _ _ _ _ _ _ _ _ _ _ _ _ _ _ _ _ _ _ _ _ _ _ _ _ _ _ _ _ _ _ _ _ _ _ _ _ _ _ _ _ _ _ _ _ _ _ _ _ _ _ _ _ _ _ _ _ _ _ _ _ _ _ _ _ _ _ _ _ _ _ _ _ _ _ _ _ _ _ _ _ _ _ _ _ _ _ _ _ _ _ _ _ _ _ _ _ _ _ _ _ _ _ _ _ _ _ _ _ _ _ _ _ _ _ _ _ _ _ _ _ _ _ _ _ _ _ _ _ _ _ _ _ _ _ _ _ _ _ _ _ _ _ _ _ _ _ _ _ _ ?_
      intro _ _ _ _ _ _ _ _ _ _ _ _ _ _ _ _ _ _ _ _ _ _ _ _ _ _ w' hrel'
      go_wp2_with fail
      go_meet
      case rel => exact hrel'
    case rest =>
      clear HS
      obtain ⟨oc4, HS⟩ := hcut
      go_upto_region 5 with (fail)
      go_cut [] (fun wc4 => ∃ oc4, Hid (Th w o a x y ⟨FA.ks.set i ke, FA.vs.set i ve, FA.cs⟩ ⟨FX.ks.take (L - 1), FX.vs.take (L - 1), FX.cs⟩ ⟨ka :: FY.ks, va :: FY.vs, FY.cs⟩ wc4 oc4))
      case first =>
        refine shR_5 a x y i w o _ FX _ HF hax hay hxy L hL hL2 hL1 hL3 ke ve hke hve wc _ HS _ _ _ _ _ _ _ _ _ _ _ _ _ _ _ _ _ _ _ _ _ _ _ _ _ _ _ _ _ _ _ _ _ _ _ _ _ _ _ _ _ _ _ _ _ _ _ _ _ _ _ _ _ _ _ _ _ _ _ _ _ _ _ _ _ _ _ _ _ _ _ _ _ _ _ _ _ _ _ _ _ _ _ _ _ _ _ _ _ _ _ _ _ _ _ _ _ _ _ _ _ _ _ _ _ _ _ _ _ _ _ _ _ _ _ _ _ _ _ _ _ _ _ _ _ _ _ _ _ _ _ _ _ _ _ _ _ _ _ _ _ _ _ _ _ _ _ _ _ _ _ _ _ _ _ _ _ _ _ _ _ _ _ _ _ _ _ _ _ _ _ _ _ _ _ _ _ _ _ _ _ _ _ _ _ _ _ _ _ _ _ _ _ _ _ _ _ _ _ _ _ _ _ _ _ _ _ _ _ _ _ _ _ _ _ _ _ _ _ _ _ _ _ _ _ _ _ _ _ _ _ _ _ _ _ _ _ _ _ ?_
        intro _ _ _ _ _ _ _ _ _ _ _ _ _ _ _ _ _ _ w' hrel'
        go_wp2_with fail
        go_meet
        case rel => exact hrel'
      case rest =>
        clear HS
        obtain ⟨oc5, HS⟩ := hcut
        obtain ⟨xk, xv, xc, hX⟩ := HS.out.nx
        obtain ⟨-, -, x2o⟩ := hX.cells
        obtain ⟨B1, d1, B2, d2, B3, d3, rfl, rfl, rfl, -, -, l3o⟩ := hX.row
        obtain ⟨C, hC⟩ : ∃ C, C = FX.cs.length := ⟨_, rfl⟩
        have x2 : wc.cell? ⟨x, 2, none⟩ = some (.slice B3 C d3) := by rw [hC]; exact x2o
        have l3 : C ≤ d3 := by rw [hC]; exact l3o
        clear x2o l3o
        have HX := Lib.hid hX
        have HC := Lib.hid hC
        have hlc : C ≤ 1001 := by omega
        clear hX hC
        by_cases hz : C = 0
        · subst hz
          go_wp2_with fail
          refine bodyPost_ret (results_none rfl _ _ _) rfl ?_
          have e1 : FX.cs = [] := List.eq_nil_of_length_eq_zero HC.out.symm
          have h0 := HS.out
          unfold ShiftRP
          rw [hL, e1]
          rw [e1] at h0
          exact ⟨rfl, _, h0⟩
        · have hz1 : ¬ (C : Int) = 0 := by omega
          have hz6 : 0 < C := by omega
          have hz7 : ¬ C = 0 := hz
          have hz2 : (0 : Int) ≤ (C : Int) - 1 := by omega
          have hz3 : 1 ≤ (C : Int) := by omega
          have hz4 : (C : Int) - 1 < (C : Int) := by omega
          have hz5 : ((C : Int) - 1).toNat = C - 1 := by omega
          obtain ⟨gx, rfl, hxc, -⟩ := HX.out.ccell (i := C - 1) (by show C - 1 < FX.cs.length; have := HC.out; omega)
          obtain ⟨ce, hce⟩ : ∃ ce, FX.cs[C - 1]? = some ce := ⟨_, List.getElem?_eq_getElem (by have := HC.out; omega)⟩
          have HCE := Lib.hid hce
          clear hxc hce
          go_upto_region 8 with (fail)
          go_cut [] (fun wc5 => ∃ oc5, Hid (Th w o a x y ⟨FA.ks.set i ke, FA.vs.set i ve, FA.cs⟩ ⟨FX.ks.take (L - 1), FX.vs.take (L - 1), FX.cs⟩ ⟨ka :: FY.ks, va :: FY.vs, ce :: FY.cs⟩ wc5 oc5))
          case first =>
            refine shR_8 a x y i w o _ ⟨FX.ks.take (L - 1), FX.vs.take (L - 1), FX.cs⟩ ⟨ka :: FY.ks, va :: FY.vs, FY.cs⟩ HF hax hay hxy hlyc C HC.out hlc hz ce HCE.out wc _ HS _ _ _ _ _ _ _ _ _ _ _ _ _ _ _ _ _ _ _ _ _ _ _ _ _ _ _ _ _ _ _ _ _ _ _ _ _ _ _ _ _ _ _ _ _ _ _ _ _ _ _ _ _ _ _ _ _ _ _ _ _ _ _ _ _ _ _ _ _ _ _ _ _ _ _ _ _ _ _ _ _ _ _ _ _ _ _ _ _ _ _ _ _ _ _ _ _ _ _ _ _ _ _ _ _ _ _ _ _ _ _ _ _ _ _ _ _ _ _ _ _ _ _ _ _ _ _ _ _ _ _ _ _ _ _ _ _ _ _ _ _ _ _ _ _ _ _ _ _ _ _ _ _ _ _ _ _ _ _ _ _ _ _ _ _ _ _ _ _ _ _ _ _ _ _ _ _ _ _ _ _ _ _ _ _ _ _ _ _ _ _ _ _ _ _ _ _ _ _ _ _ _ _ _ _ _ _ _ _ _ _ _ _ _ _ _ _ _ _ _ _ _ _ _ _ _ _ _ _ _ _ _ _ _ _ _ _ _ ?_
            intro _ _ _ _ _ _ _ _ _ _ _ _ _ _ _ _ w' hrel'
            go_wp2_with fail
            go_meet
            case rel => exact hrel'
          case rest =>
            clear HS HX
            obtain ⟨oc6, HS⟩ := hcut
            obtain ⟨xk, xv, xc, hX⟩ := HS.out.nx
            obtain ⟨-, -, x2o⟩ := hX.cells
            obtain ⟨B1, d1, B2, d2, B3, d3, rfl, rfl, rfl, -, -, l3o⟩ := hX.row
            have x2 : wc.cell? ⟨x, 2, none⟩ = some (.slice B3 C d3) := by rw [HC.out]; exact x2o
            have l3 : C ≤ d3 := by rw [HC.out]; exact l3o
            clear x2o l3o
            obtain ⟨gx, rfl, -, -⟩ := hX.ccell (i := C - 1) (by show C - 1 < FX.cs.length; have := HC.out; omega)
            have f2 := blk_frozen hX.blk 2
            have hz6 : (C : Int) - 1 ≤ (d3 : Int) := by omega
            have HX := Lib.hid hX
            clear hX
            go_wp2_with fail
            go_end0
            have hs1 := csR_short HX.out.rc rfl (C - 1) d3 (by show C - 1 ≤ FX.cs.length; have := HC.out; omega) (by omega) (Nat.le_refl _)
            obtain ⟨hX6, hU6⟩ := HX.out.sc (v' := .slice (some ⟨gx, 0, none⟩) (C - 1) d3) (mid_plain HS.out.up.fb (Below.refl _ _) (below_grown (Below.refl _ _) _) (.inl rfl)) hs1
            have hfin := HS.out.stepX HF.out hax hxy hX6 hU6
            unfold ShiftRP
            have ed : FX.cs.drop (FX.cs.length - 1) = [ce] := by
              rw [← HC.out]
              have h5 := HCE.out
              have hlt : C - 1 < FX.cs.length := by have := HC.out; omega
              rw [List.getElem?_eq_getElem hlt, Option.some.injEq] at h5
              rw [List.drop_eq_getElem_cons hlt, h5, List.drop_eq_nil_of_le (by have := HC.out; omega)]
            rw [hL, ed, ← HC.out]
            exact ⟨rfl, _, hfin⟩
end Go.Proofs.Ytfhonfeopkhdeaa.BC
