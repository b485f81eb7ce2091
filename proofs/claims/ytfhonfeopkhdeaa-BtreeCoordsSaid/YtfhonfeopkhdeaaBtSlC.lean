/-
  shift to the left: a key goes from the right child over the node to the left child. No premise.
-/
import Derived.Test.YtfhonfeopkhdeaaBtDkC
namespace Go.Proofs.Ytfhonfeopkhdeaa.BC
open Go.RowKit Go.Proofs.YtfhonfeopkhdeaaW.PrintWords

def ShiftLP (w : World) (o : Nat → Nat) (a x y : Nat) (FA FX FY : Nf Ky) (i : Nat) (ka ke : Ky) (va ve : Int) (e : Ending) (w' : World) : Prop :=
  e = .returned (.tuple #[]) ∧ ∃ o', Th w o a x y ⟨FA.ks.set i ke, FA.vs.set i ve, FA.cs⟩ ⟨FX.ks ++ [ka], FX.vs ++ [va], FX.cs ++ FY.cs.take 1⟩ ⟨FY.ks.drop 1, FY.vs.drop 1, FY.cs.drop 1⟩ w' o'
noncomputable def shL_10_code : Code := ((Try.f107.body.bind (findRg 10)).getD .skip)
set_option maxRecDepth 1000000 in
set_option maxHeartbeats 8000000 in
theorem shL_10 (a x y i : Nat) (w : World) (o : Nat → Nat) (FA FX FY : Nf Ky) (HF : Hid (Fb o w)) (hax : a ≠ x) (_hay : a ≠ y) (hxy : x ≠ y) (hlx : FX.ks.length ≤ 1000) (hlxv : FX.vs.length ≤ 1000) (ka : Ky) (va : Int) (hka : FA.ks[i]? = some ka) (hva : FA.vs[i]? = some va) (wc : World) (oc : Nat → Nat) (HS : Hid (Th w o a x y FA FX FY wc oc)) {Q : Exit → Act → World → Prop} (t2 t3 t4 t5 t7 t8 t9 t10 t11 t12 t13 t14 t15 t16 t17 t18 t19 t20 t21 t22 t23 t24 t25 t26 t27 t28 t29 t30 t31 t32 t33 t34 t35 t36 t37 t38 t39 t40 t41 t42 t43 t44 t45 t46 t47 t48 t49 t50 t51 t52 t53 t54 t55 t56 t57 t58 t59 t60 t61 t62 t63 t64 t65 t66 t67 t68 t69 t70 t71 t72 t73 t74 t75 t76 t77 t78 t79 t80 t81 t82 t83 t84 t85 t86 t87 t88 t89 t90 t91 t92 t93 t94 t95 t96 t97 t98 t99 t100 t101 t102 t103 t104 t105 t106 t107 t108 t109 t110 t111 t112 t113 t114 t115 t116 t117 t118 t119 t120 t121 t122 t123 t124 t125 t126 t127 t128 t129 t130 t131 t132 t133 t134 t135 t136 t137 t138 t139 t140 t141 t142 t143 t144 t145 t146 t147 t148 t149 t150 t151 t152 t153 t154 t155 t156 t157 t158 t159 t160 t161 t162 t163 t164 t165 t166 t167 t168 t169 t170 t171 t172 t173 t174 t175 t176 t177 t178 t179 t180 t181 t182 t183 t184 t185 t186 t187 t188 t189 t190 t191 t192 t193 t194 t195 t196 t197 t198 t199 t200 t201 t202 t203 t204 t205 t206 t207 t208 t209 t210 t211 t212 t213 t214 t215 t216 t217 t218 t219 t220 t221 t222 t223 t224 t225 t226 t227 t228 t229 t230 t231 t232 t233 t234 t235 t236 t237 t238 t239 t240 : Value) (hQ : ∀ (u140 u141 u142 u143 u144 u145 u146 u147 u148 u149 u150 u151 u152 u153 u154 u155 u156 u157 u158 u159 u160 u161 u162 u163 u164 u165 u166 u167 u168 u169 u170 u171 : Value) (w' : World), (∃ oc3, Hid (Th w o a x y FA ⟨FX.ks ++ [ka], FX.vs ++ [va], FX.cs⟩ FY w' oc3)) → Q .normal ⟨(.pointer (some ⟨a, 0, none⟩) :: .int .i64 i :: t2 :: t3 :: t4 :: t5 :: .pointer (some ⟨x, 0, none⟩) :: t7 :: t8 :: t9 :: t10 :: t11 :: t12 :: t13 :: t14 :: t15 :: t16 :: t17 :: t18 :: t19 :: t20 :: t21 :: t22 :: t23 :: t24 :: t25 :: t26 :: t27 :: t28 :: t29 :: t30 :: t31 :: t32 :: t33 :: t34 :: t35 :: t36 :: t37 :: t38 :: t39 :: t40 :: t41 :: t42 :: t43 :: t44 :: t45 :: t46 :: t47 :: t48 :: t49 :: t50 :: t51 :: t52 :: t53 :: t54 :: t55 :: t56 :: t57 :: t58 :: t59 :: t60 :: t61 :: t62 :: t63 :: t64 :: t65 :: t66 :: t67 :: t68 :: t69 :: t70 :: t71 :: t72 :: t73 :: t74 :: t75 :: t76 :: t77 :: t78 :: t79 :: t80 :: t81 :: t82 :: t83 :: t84 :: t85 :: t86 :: t87 :: t88 :: t89 :: t90 :: t91 :: t92 :: t93 :: t94 :: t95 :: t96 :: t97 :: t98 :: t99 :: t100 :: t101 :: t102 :: t103 :: t104 :: t105 :: t106 :: t107 :: t108 :: t109 :: t110 :: t111 :: t112 :: t113 :: t114 :: t115 :: t116 :: t117 :: t118 :: t119 :: t120 :: t121 :: t122 :: t123 :: t124 :: t125 :: t126 :: t127 :: t128 :: t129 :: t130 :: t131 :: t132 :: t133 :: t134 :: t135 :: t136 :: t137 :: t138 :: t139 :: u140 :: u141 :: u142 :: u143 :: u144 :: u145 :: u146 :: u147 :: u148 :: u149 :: u150 :: u151 :: u152 :: u153 :: u154 :: u155 :: u156 :: u157 :: u158 :: u159 :: u160 :: u161 :: u162 :: u163 :: u164 :: u165 :: u166 :: u167 :: u168 :: u169 :: u170 :: u171 :: t172 :: t173 :: t174 :: t175 :: t176 :: t177 :: t178 :: t179 :: t180 :: t181 :: t182 :: t183 :: t184 :: t185 :: t186 :: t187 :: t188 :: t189 :: t190 :: t191 :: t192 :: t193 :: t194 :: t195 :: t196 :: t197 :: t198 :: t199 :: t200 :: t201 :: t202 :: t203 :: t204 :: t205 :: t206 :: t207 :: t208 :: t209 :: t210 :: t211 :: t212 :: t213 :: t214 :: t215 :: t216 :: t217 :: t218 :: t219 :: t220 :: t221 :: t222 :: t223 :: t224 :: t225 :: t226 :: t227 :: t228 :: t229 :: t230 :: t231 :: t232 :: t233 :: t234 :: t235 :: t236 :: t237 :: t238 :: t239 :: t240 :: []).toArray, []⟩ w') :
    Code.wp Try.prog shL_10_code Q ⟨(.pointer (some ⟨a, 0, none⟩) :: .int .i64 i :: t2 :: t3 :: t4 :: t5 :: .pointer (some ⟨x, 0, none⟩) :: t7 :: t8 :: t9 :: t10 :: t11 :: t12 :: t13 :: t14 :: t15 :: t16 :: t17 :: t18 :: t19 :: t20 :: t21 :: t22 :: t23 :: t24 :: t25 :: t26 :: t27 :: t28 :: t29 :: t30 :: t31 :: t32 :: t33 :: t34 :: t35 :: t36 :: t37 :: t38 :: t39 :: t40 :: t41 :: t42 :: t43 :: t44 :: t45 :: t46 :: t47 :: t48 :: t49 :: t50 :: t51 :: t52 :: t53 :: t54 :: t55 :: t56 :: t57 :: t58 :: t59 :: t60 :: t61 :: t62 :: t63 :: t64 :: t65 :: t66 :: t67 :: t68 :: t69 :: t70 :: t71 :: t72 :: t73 :: t74 :: t75 :: t76 :: t77 :: t78 :: t79 :: t80 :: t81 :: t82 :: t83 :: t84 :: t85 :: t86 :: t87 :: t88 :: t89 :: t90 :: t91 :: t92 :: t93 :: t94 :: t95 :: t96 :: t97 :: t98 :: t99 :: t100 :: t101 :: t102 :: t103 :: t104 :: t105 :: t106 :: t107 :: t108 :: t109 :: t110 :: t111 :: t112 :: t113 :: t114 :: t115 :: t116 :: t117 :: t118 :: t119 :: t120 :: t121 :: t122 :: t123 :: t124 :: t125 :: t126 :: t127 :: t128 :: t129 :: t130 :: t131 :: t132 :: t133 :: t134 :: t135 :: t136 :: t137 :: t138 :: t139 :: t140 :: t141 :: t142 :: t143 :: t144 :: t145 :: t146 :: t147 :: t148 :: t149 :: t150 :: t151 :: t152 :: t153 :: t154 :: t155 :: t156 :: t157 :: t158 :: t159 :: t160 :: t161 :: t162 :: t163 :: t164 :: t165 :: t166 :: t167 :: t168 :: t169 :: t170 :: t171 :: t172 :: t173 :: t174 :: t175 :: t176 :: t177 :: t178 :: t179 :: t180 :: t181 :: t182 :: t183 :: t184 :: t185 :: t186 :: t187 :: t188 :: t189 :: t190 :: t191 :: t192 :: t193 :: t194 :: t195 :: t196 :: t197 :: t198 :: t199 :: t200 :: t201 :: t202 :: t203 :: t204 :: t205 :: t206 :: t207 :: t208 :: t209 :: t210 :: t211 :: t212 :: t213 :: t214 :: t215 :: t216 :: t217 :: t218 :: t219 :: t220 :: t221 :: t222 :: t223 :: t224 :: t225 :: t226 :: t227 :: t228 :: t229 :: t230 :: t231 :: t232 :: t233 :: t234 :: t235 :: t236 :: t237 :: t238 :: t239 :: t240 :: []).toArray, []⟩ wc := by
  refine wp_onN ?_
  conv => arg 2; whnf
  obtain ⟨ak, av, ac, hA⟩ := HS.out.na
  obtain ⟨yk, yv, yc, hY⟩ := HS.out.nx
  obtain ⟨gk, c1, gv, c2, rfl, rfl, -, -, hi3, hi4⟩ := hA.rows hka hva
  obtain ⟨E1, e1, E2, e2, E3, e3, rfl, rfl, rfl, -⟩ := hY.row
  have HKI := Lib.hid (fun V hb gv hv => key_appW hY (V := V) (by omega) ka hb gv hv)
  have HVI := Lib.hid (fun V hb gv hv => val_appW hY (V := V) (by omega) va hb gv hv)
  have HSK := Lib.hid (fun V (hg : Gr2 wc V (.slice E1 FX.ks.length e1) (.slice E2 FX.vs.length e2)) => And.intro (hY.own2 hg).1 (And.intro (hY.own2 hg).2.1 (And.intro ((hY.apart2 hA (Ne.symm hax) hg).kat hka) ((hY.apart2 hA (Ne.symm hax) hg).vat hva))))
  have HYV := Lib.hid (fun V (hg : wc.grownBy V (Value.slice E1 FX.ks.length e1).ownBlock) => rw_apart hY.rv hY.rk hg (by decide))
  have HYK := Lib.hid (fun g (e : (Value.slice E1 FX.ks.length e1).ownBlock = some g) => hY.rk.lt e)
  have HOK := Lib.hid (show ∀ k ∈ FX.ks ++ [ka], KOk wc oc k from fun k hk => by
    rcases List.mem_append.1 hk with hk | hk
    · exact hY.ok k hk
    · rw [List.mem_singleton.1 hk]
      exact hA.ok _ (List.mem_of_getElem? hka))
  have HYN := Lib.hid hY
  clear hA hY
  refine wp_region_Y1 (by kernel_rfl) ?_
  intro V hV
  refine wpY_take (i := 0) (v := ?_) [] rfl (by kernel_rfl) (by kernel_rfl) (by kernel_rfl) (by kernel_rfl) (fun _ _ _ h => h) (Or.inl ⟨by rfl, ?_⟩) trivial ?_
  rotate_left
  · (intro wS hSw; (try dsimp only at hSw); go_simp; (try (with_reducible rfl)))
  try simp only [Act.put, List.setIfInBounds_toArray]
  refine wpY_take (i := 1) (v := ?_) [] rfl (by kernel_rfl) (by kernel_rfl) (by kernel_rfl) (by kernel_rfl) (fun _ _ _ h => h) (Or.inl ⟨by rfl, ?_⟩) trivial ?_
  rotate_left
  · (intro wS hSw; (try dsimp only at hSw); go_simp; (try (with_reducible rfl)))
  try simp only [Act.put]
  refine wpY_take (i := 2) (v := ?_) [] rfl (by kernel_rfl) (by kernel_rfl) (by kernel_rfl) (by kernel_rfl) (fun _ _ _ h => h) (Or.inl ⟨by rfl, ?_⟩) trivial ?_
  rotate_left
  · (intro wS hSw; (try dsimp only at hSw); go_simp; (try (with_reducible rfl)))
  try simp only [Act.put]
  refine wpY_take (i := 3) (v := ?_) [] rfl (by kernel_rfl) (by kernel_rfl) (by kernel_rfl) (by kernel_rfl) (fun _ _ _ h => h) (Or.inl ⟨by rfl, ?_⟩) trivial ?_
  rotate_left
  · (intro wS hSw; (try dsimp only at hSw); go_simp; (try (with_reducible rfl)))
  try simp only [Act.put]
  refine wpY_take (i := 4) (v := ?_) [] rfl (by kernel_rfl) (by kernel_rfl) (by kernel_rfl) (by kernel_rfl) (fun _ _ _ h => h) (Or.inl ⟨by rfl, ?_⟩) trivial ?_
  rotate_left
  · (intro wS hSw; (try dsimp only at hSw); go_simp; (try (with_reducible rfl)))
  try simp only [Act.put]
  refine wpY_take (i := 6) (v := ?_) [] rfl (by kernel_rfl) (by kernel_rfl) (by kernel_rfl) (by kernel_rfl) (fun _ _ _ h => h) (Or.inl ⟨by rfl, ?_⟩) trivial ?_
  rotate_left
  · (intro wS hSw; (try dsimp only at hSw); go_simp; (try (with_reducible rfl)))
  try simp only [Act.put]
  refine wpY_take (i := 7) (v := ?_) [] rfl (by kernel_rfl) (by kernel_rfl) (by kernel_rfl) (by kernel_rfl) (fun _ _ _ h => h) (Or.inl ⟨by rfl, ?_⟩) trivial ?_
  rotate_left
  · (intro wS hSw; (try dsimp only at hSw); go_simp; (try (with_reducible rfl)))
  try simp only [Act.put]
  refine wpY_take (i := 8) (v := ?_) [] rfl (by kernel_rfl) (by kernel_rfl) (by kernel_rfl) (by kernel_rfl) (fun _ _ _ h => h) (Or.inl ⟨by rfl, ?_⟩) trivial ?_
  rotate_left
  · (intro wS hSw; (try dsimp only at hSw); go_simp; (try (with_reducible rfl)))
  try simp only [Act.put]
  refine wpY_take (i := 10) (v := ?_) [] rfl (by kernel_rfl) (by kernel_rfl) (by kernel_rfl) (by kernel_rfl) (fun _ _ _ h => h) (Or.inl ⟨by rfl, ?_⟩) trivial ?_
  rotate_left
  · (intro wS hSw; (try dsimp only at hSw); go_simp; (try (with_reducible rfl)))
  try simp only [Act.put]
  refine wpY_take (i := 15) (v := ?_) [] rfl (by kernel_rfl) (by kernel_rfl) (by kernel_rfl) (by kernel_rfl) (fun _ _ _ h => h) (Or.inl ⟨by rfl, ?_⟩) trivial ?_
  rotate_left
  · (intro wS hSw; (try dsimp only at hSw); go_simp; (try (with_reducible rfl)))
  try simp only [Act.put]
  refine wpY_take (i := 16) (v := ?_) [] rfl (by kernel_rfl) (by kernel_rfl) (by kernel_rfl) (by kernel_rfl) (fun _ _ _ h => h) (Or.inl ⟨by rfl, ?_⟩) trivial ?_
  rotate_left
  · (intro wS hSw; (try dsimp only at hSw); go_simp; (try (with_reducible rfl)))
  try simp only [Act.put]
  refine wpY_take (i := 17) (v := ?_) [] rfl (by kernel_rfl) (by kernel_rfl) (by kernel_rfl) (by kernel_rfl) (fun _ _ _ h => h) (Or.inl ⟨by rfl, ?_⟩) trivial ?_
  rotate_left
  · (intro wS hSw; (try dsimp only at hSw); go_simp; (try (with_reducible rfl)))
  try simp only [Act.put]
  refine wpY_take (i := 19) (v := ?_) [] rfl (by kernel_rfl) (by kernel_rfl) (by kernel_rfl) (by kernel_rfl) (fun _ _ _ h => h) (Or.inl ⟨by rfl, ?_⟩) trivial ?_
  rotate_left
  · (intro wS hSw; (try dsimp only at hSw); go_simp; (try (with_reducible rfl)))
  try simp only [Act.put]
  refine wpY_take (i := 20) (v := ?_) [] rfl (by kernel_rfl) (by kernel_rfl) (by kernel_rfl) (by kernel_rfl) (fun _ _ _ h => h) (Or.inl ⟨by rfl, ?_⟩) trivial ?_
  rotate_left
  · (intro wS hSw; (try dsimp only at hSw); go_simp; (try (with_reducible rfl)))
  try simp only [Act.put]
  refine wpY_take (i := 21) (v := ?_) [] rfl (by kernel_rfl) (by kernel_rfl) (by kernel_rfl) (by kernel_rfl) (fun _ _ _ h => h) (Or.inl ⟨by rfl, ?_⟩) trivial ?_
  rotate_left
  · (intro wS hSw; (try dsimp only at hSw); go_simp; (try (with_reducible rfl)))
  try simp only [Act.put]
  refine wpY_take (i := 23) (v := ?_) [] rfl (by kernel_rfl) (by kernel_rfl) (by kernel_rfl) (by kernel_rfl) (fun _ _ _ h => h) (Or.inl ⟨by rfl, ?_⟩) trivial ?_
  rotate_left
  · (intro wS hSw; (try dsimp only at hSw); go_simp; (try (with_reducible rfl)))
  try simp only [Act.put]
  have HB := Lib.hid (show Below wc.heap.size wc V from by rw [hV]; exact (Below.refl _ _).drew)
  clear hV
  have HG := Lib.hid (show Gr2 wc V (.slice E1 FX.ks.length e1) (.slice E2 FX.vs.length e2) from Gr2.below HB.out)
  have HG1 := Lib.hid (show wc.grownBy V (Value.slice E1 FX.ks.length e1).ownBlock from below_grown HB.out _)
  have hS0 := HSK.out V HG.out
  refine wpY_swap ((fun W' => W'.cell? ⟨x, 0, none⟩ = some (.slice E1 FX.ks.length e1) ∧ W'.cell? ⟨x, 1, none⟩ = some (.slice E2 FX.vs.length e2) ∧ (W'.cell? ⟨a, 0, none⟩ = some (.slice (some ⟨gk, 0, none⟩) FA.ks.length c1) ∧ W'.cell? ⟨gk, i, none⟩ = some (.slice (ka).A (ka).l.length (ka).c)) ∧ (W'.cell? ⟨a, 1, none⟩ = some (.slice (some ⟨gv, 0, none⟩) FA.vs.length c2) ∧ W'.cell? ⟨gv, i, none⟩ = some (.int .u64 va)))) [28, 29, 30, 31, 32, 33] ?_
  refine wpY_take (i := 5) (v := ?_) [[28], [29], [30], [31], [32], [33]] rfl (by kernel_rfl) (by kernel_rfl) (by kernel_rfl) (by kernel_rfl) (fun _ _ _ h => h) (Or.inl ⟨by rfl, ?_⟩) (by assumption) ?_
  rotate_left
  · (intro wS hSw; (try dsimp only at hSw); go_simp; (try (with_reducible rfl)))
  try simp only [Act.put]
  refine wpY_take (i := 9) (v := ?_) [[28], [29], [30], [31], [32], [33]] rfl (by kernel_rfl) (by kernel_rfl) (by kernel_rfl) (by kernel_rfl) (fun _ _ _ h => h) (Or.inl ⟨by rfl, ?_⟩) (by assumption) ?_
  rotate_left
  · (intro wS hSw; (try dsimp only at hSw); go_simp; (try (with_reducible rfl)))
  try simp only [Act.put]
  refine wpY_take (i := 11) (v := ?_) [[28], [29], [30], [31], [32], [33]] rfl (by kernel_rfl) (by kernel_rfl) (by kernel_rfl) (by kernel_rfl) (fun _ _ _ h => h) (Or.inl ⟨by rfl, ?_⟩) (by assumption) ?_
  rotate_left
  · (intro wS hSw; (try dsimp only at hSw); go_simp; (try (with_reducible rfl)))
  try simp only [Act.put]
  refine wpY_take (i := 12) (v := ?_) [[28], [29], [30], [31], [32], [33]] rfl (by kernel_rfl) (by kernel_rfl) (by kernel_rfl) (by kernel_rfl) (fun _ _ _ h => h) (Or.inl ⟨by rfl, ?_⟩) (by assumption) ?_
  rotate_left
  · (intro wS hSw; (try dsimp only at hSw); go_simp; (try (with_reducible rfl)))
  try simp only [Act.put]
  refine wpY_take (i := 18) (v := ?_) [[28], [29], [30], [31], [32], [33]] rfl (by kernel_rfl) (by kernel_rfl) (by kernel_rfl) (by kernel_rfl) (fun _ _ _ h => h) (Or.inl ⟨by rfl, ?_⟩) (by assumption) ?_
  rotate_left
  · (intro wS hSw; (try dsimp only at hSw); go_simp; (try (with_reducible rfl)))
  try simp only [Act.put]
  refine wpY_take (i := 22) (v := ?_) [[28], [29], [30], [31], [32], [33]] rfl (by kernel_rfl) (by kernel_rfl) (by kernel_rfl) (by kernel_rfl) (fun _ _ _ h => h) (Or.inl ⟨by rfl, ?_⟩) (by assumption) ?_
  rotate_left
  · (intro wS hSw; (try dsimp only at hSw); go_simp; (try (with_reducible rfl)))
  try simp only [Act.put]
  refine wpY_take (i := 24) (v := ?_) [[28, 25], [29, 25], [30, 25], [31], [32], [33]] rfl (by kernel_rfl) (by kernel_rfl) (by kernel_rfl) (by kernel_rfl) (fun _ _ _ h => h) (Or.inl ⟨by rfl, ?_⟩) (by assumption) ?_
  rotate_left
  · (intro wS hSw; (try dsimp only at hSw); go_simp; (try (with_reducible rfl)))
  try simp only [Act.put]
  refine wpY_take (i := 25) (v := ?_) [[28], [29], [30], [31], [32], [33]] rfl (by kernel_rfl) (by kernel_rfl) (by kernel_rfl) (by kernel_rfl) (fun _ _ _ h => h) (Or.inl ⟨by rfl, ?_⟩) (by assumption) ?_
  rotate_left
  · (intro wS hSw; (try dsimp only at hSw); go_simp; (try (with_reducible rfl)))
  try simp only [Act.put]
  refine wpY_two (i := 13) (j := 26) (by kernel_rfl) rfl rfl (fun K hK => ?_) (fun K hK => ?_)
  ·
    go_simp
    have H13 := Lib.hid (top_blk V #[(.slice (ka).A (ka).l.length (ka).c)] 22)
    have HQ13 := Lib.hid (show wc.heap.size ≤ V.heap.size from HG.out.size)
    have HB := Lib.hid (HB.out.alloc HB.out.size (.cells #[(.slice (ka).A (ka).l.length (ka).c)] 22))
    have HG := Lib.hid (HG.out.alloc (.cells #[(.slice (ka).A (ka).l.length (ka).c)] 22))
    have HG1 := Lib.hid (grown_alloc HG1.out (.cells #[(.slice (ka).A (ka).l.length (ka).c)] 22))
    (try have H26 := Lib.hid (blk_alloc H26.out (.cells #[(.slice (ka).A (ka).l.length (ka).c)] 22)))
    refine letK ?_
    intro V hV
    rw [← hV] at H13 HB HG HG1
    (try rw [← hV] at H26)
    clear hV
    refine hK.out _ _ (.inr (HSK.out _ HG.out)) ?_
    clear hK K
    try simp only [Act.put, List.setIfInBounds_toArray, List.set_cons_zero, List.set_cons_succ]
    refine wpY_two (i := 14) (j := 26) (by kernel_rfl) rfl rfl (fun K hK => ?_) (fun K hK => ?_)
    ·
      obtain ⟨vk', V', hrun, hr2, hg2, hn2⟩ := HKI.out V HB.out _ H13.out
      obtain ⟨Ak, lk, ck, rfl⟩ := rw_slice hr2
      refine step_run rfl (.tmp 145) (.tmp 153) 69 69 rfl _ _ (by rfl) (by rfl) _ _ hrun ?_
      clear hrun
      have HR14 := Lib.hid hr2
      have HN14 := Lib.hid hn2
      have HG := Lib.hid (HG.out.grownL hg2)
      have HG1 := Lib.hid (HG1.out.trans hg2)
      (try have H26 := Lib.hid (blk_apart H26.out hg2 (fun e => by have := HYK.out _ e; have := HQ26.out; omega)))
      clear hr2 hg2 hn2 HB H13
      refine letK ?_
      intro V hV
      rw [← hV] at HR14 HG HG1
      (try rw [← hV] at H26)
      clear hV
      refine hK.out _ _ (.inr (HSK.out _ HG.out)) ?_
      clear hK K
      try simp only [Act.put, List.setIfInBounds_toArray]
      refine wpY_one (i := 26) (by kernel_rfl) rfl (fun K hK => ?_)
      go_simp
      have H26 := Lib.hid (top_blk V #[.int .u64 va] 38)
      have HQ26 := Lib.hid (show wc.heap.size ≤ V.heap.size from HG.out.size)
      (try have HB := Lib.hid (HB.out.alloc HB.out.size (.cells #[.int .u64 va] 38)))
      have HG := Lib.hid (HG.out.alloc (.cells #[.int .u64 va] 38))
      have HG1 := Lib.hid (grown_alloc HG1.out (.cells #[.int .u64 va] 38))
      (try have H13 := Lib.hid (blk_alloc H13.out (.cells #[.int .u64 va] 38)))
      (try have HR14 := Lib.hid (rw_alloc HR14.out (.cells #[.int .u64 va] 38)))
      refine letK ?_
      intro V hV
      rw [← hV] at H26 HG HG1
      (try rw [← hV] at HB)
      (try rw [← hV] at H13)
      (try rw [← hV] at HR14)
      clear hV
      refine hK.out _ _ (.inr (HSK.out _ HG.out)) ?_
      clear hK K
      try simp only [Act.put, List.setIfInBounds_toArray, List.set_cons_zero, List.set_cons_succ]
      refine wpY_one (i := 27) (by kernel_rfl) rfl (fun K hK => ?_)
      obtain ⟨vv', V', hrun, hr3, hg3, hn3⟩ := HVI.out V HG1.out _ H26.out
      obtain ⟨Av, lv, cv, rfl⟩ := rw_slice hr3
      refine step_run rfl (.tmp 158) (.tmp 166) 51 51 rfl _ _ (by rfl) (by rfl) _ _ hrun ?_
      clear hrun
      have HR27 := Lib.hid hr3
      have HN27 := Lib.hid hn3
      have HR14 := Lib.hid (rw_apart HR14.out (HYV.out _ HG1.out) hg3 (by decide))
      have HG := Lib.hid (HG.out.grownR hg3)
      clear hr3 hg3 hn3 HG1 H26
      refine letK ?_
      intro V hV
      rw [← hV] at HR14 HR27 HG
      clear hV
      obtain ⟨f0, f1, -, f3⟩ := HYN.out.own2 HG.out
      have f30 := f3 0
      have f31 := f3 1
      clear f3
      refine hK.out _ _ (.inr (HSK.out _ HG.out)) ?_
      clear hK K
      try simp only [Act.put, List.setIfInBounds_toArray]
      refine wpY_one (i := 28) (by kernel_rfl) rfl (fun K hK => ?_)
      go_simp
      refine hK.out _ _ (.inl (by decide)) ?_
      clear hK K
      try simp only [Act.put, List.setIfInBounds_toArray, List.set_cons_zero, List.set_cons_succ]
      refine wpY_one (i := 29) (by kernel_rfl) rfl (fun K hK => ?_)
      go_simp
      refine hK.out _ _ (.inl (by decide)) ?_
      clear hK K
      try simp only [Act.put, List.setIfInBounds_toArray, List.set_cons_zero, List.set_cons_succ]
      refine wpY_one (i := 30) (by kernel_rfl) rfl (fun K hK => ?_)
      go_simp
      refine hK.out _ _ (.inl (by decide)) ?_
      clear hK K
      try simp only [Act.put, List.setIfInBounds_toArray, List.set_cons_zero, List.set_cons_succ]
      refine wpY_one (i := 31) (by kernel_rfl) rfl (fun K hK => ?_)
      go_simp
      refine hK.out _ _ (.inl (by decide)) ?_
      clear hK K
      try simp only [Act.put, List.setIfInBounds_toArray, List.set_cons_zero, List.set_cons_succ]
      refine wpY_one (i := 32) (by kernel_rfl) rfl (fun K hK => ?_)
      go_simp
      refine hK.out _ _ (.inl (by decide)) ?_
      clear hK K
      try simp only [Act.put, List.setIfInBounds_toArray, List.set_cons_zero, List.set_cons_succ]
      refine wpY_one (i := 33) (by kernel_rfl) rfl (fun K hK => ?_)
      go_simp
      refine hK.out _ _ (.inl (by decide)) ?_
      clear hK K
      try simp only [Act.put, List.setIfInBounds_toArray, List.set_cons_zero, List.set_cons_succ]
      refine wpY_done (by kernel_rfl) ?_ _
      apply hQ
      obtain ⟨hY5, hU5⟩ := NdAt.skv HS.out.up.fb HYN.out HG.out HR14.out HR27.out HN14.out HN27.out HOK.out
      exact ⟨_, Lib.hid (HS.out.stepX HF.out hax hxy hY5 hU5)⟩
    ·
      go_simp
      have H26 := Lib.hid (top_blk V #[.int .u64 va] 38)
      have HQ26 := Lib.hid (show wc.heap.size ≤ V.heap.size from HG.out.size)
      (try have HB := Lib.hid (HB.out.alloc HB.out.size (.cells #[.int .u64 va] 38)))
      have HG := Lib.hid (HG.out.alloc (.cells #[.int .u64 va] 38))
      have HG1 := Lib.hid (grown_alloc HG1.out (.cells #[.int .u64 va] 38))
      (try have H13 := Lib.hid (blk_alloc H13.out (.cells #[.int .u64 va] 38)))
      (try have HR14 := Lib.hid (rw_alloc HR14.out (.cells #[.int .u64 va] 38)))
      refine letK ?_
      intro V hV
      rw [← hV] at H26 HG HG1
      (try rw [← hV] at HB)
      (try rw [← hV] at H13)
      (try rw [← hV] at HR14)
      clear hV
      refine hK.out _ _ (.inr (HSK.out _ HG.out)) ?_
      clear hK K
      try simp only [Act.put, List.setIfInBounds_toArray, List.set_cons_zero, List.set_cons_succ]
      refine wpY_one (i := 14) (by kernel_rfl) rfl (fun K hK => ?_)
      obtain ⟨vk', V', hrun, hr2, hg2, hn2⟩ := HKI.out V HB.out _ H13.out
      obtain ⟨Ak, lk, ck, rfl⟩ := rw_slice hr2
      refine step_run rfl (.tmp 145) (.tmp 153) 69 69 rfl _ _ (by rfl) (by rfl) _ _ hrun ?_
      clear hrun
      have HR14 := Lib.hid hr2
      have HN14 := Lib.hid hn2
      have HG := Lib.hid (HG.out.grownL hg2)
      have HG1 := Lib.hid (HG1.out.trans hg2)
      (try have H26 := Lib.hid (blk_apart H26.out hg2 (fun e => by have := HYK.out _ e; have := HQ26.out; omega)))
      clear hr2 hg2 hn2 HB H13
      refine letK ?_
      intro V hV
      rw [← hV] at HR14 HG HG1
      (try rw [← hV] at H26)
      clear hV
      refine hK.out _ _ (.inr (HSK.out _ HG.out)) ?_
      clear hK K
      try simp only [Act.put, List.setIfInBounds_toArray]
      refine wpY_one (i := 27) (by kernel_rfl) rfl (fun K hK => ?_)
      obtain ⟨vv', V', hrun, hr3, hg3, hn3⟩ := HVI.out V HG1.out _ H26.out
      obtain ⟨Av, lv, cv, rfl⟩ := rw_slice hr3
      refine step_run rfl (.tmp 158) (.tmp 166) 51 51 rfl _ _ (by rfl) (by rfl) _ _ hrun ?_
      clear hrun
      have HR27 := Lib.hid hr3
      have HN27 := Lib.hid hn3
      have HR14 := Lib.hid (rw_apart HR14.out (HYV.out _ HG1.out) hg3 (by decide))
      have HG := Lib.hid (HG.out.grownR hg3)
      clear hr3 hg3 hn3 HG1 H26
      refine letK ?_
      intro V hV
      rw [← hV] at HR14 HR27 HG
      clear hV
      obtain ⟨f0, f1, -, f3⟩ := HYN.out.own2 HG.out
      have f30 := f3 0
      have f31 := f3 1
      clear f3
      refine hK.out _ _ (.inr (HSK.out _ HG.out)) ?_
      clear hK K
      try simp only [Act.put]
      refine wpY_one (i := 28) (by kernel_rfl) rfl (fun K hK => ?_)
      go_simp
      refine hK.out _ _ (.inl (by decide)) ?_
      clear hK K
      try simp only [Act.put, List.setIfInBounds_toArray, List.set_cons_zero, List.set_cons_succ]
      refine wpY_one (i := 29) (by kernel_rfl) rfl (fun K hK => ?_)
      go_simp
      refine hK.out _ _ (.inl (by decide)) ?_
      clear hK K
      try simp only [Act.put, List.setIfInBounds_toArray, List.set_cons_zero, List.set_cons_succ]
      refine wpY_one (i := 30) (by kernel_rfl) rfl (fun K hK => ?_)
      go_simp
      refine hK.out _ _ (.inl (by decide)) ?_
      clear hK K
      try simp only [Act.put, List.setIfInBounds_toArray, List.set_cons_zero, List.set_cons_succ]
      refine wpY_one (i := 31) (by kernel_rfl) rfl (fun K hK => ?_)
      go_simp
      refine hK.out _ _ (.inl (by decide)) ?_
      clear hK K
      try simp only [Act.put, List.setIfInBounds_toArray, List.set_cons_zero, List.set_cons_succ]
      refine wpY_one (i := 32) (by kernel_rfl) rfl (fun K hK => ?_)
      go_simp
      refine hK.out _ _ (.inl (by decide)) ?_
      clear hK K
      try simp only [Act.put, List.setIfInBounds_toArray, List.set_cons_zero, List.set_cons_succ]
      refine wpY_one (i := 33) (by kernel_rfl) rfl (fun K hK => ?_)
      go_simp
      refine hK.out _ _ (.inl (by decide)) ?_
      clear hK K
      try simp only [Act.put, List.setIfInBounds_toArray, List.set_cons_zero, List.set_cons_succ]
      refine wpY_done (by kernel_rfl) ?_ _
      apply hQ
      obtain ⟨hY5, hU5⟩ := NdAt.skv HS.out.up.fb HYN.out HG.out HR14.out HR27.out HN14.out HN27.out HOK.out
      exact ⟨_, Lib.hid (HS.out.stepX HF.out hax hxy hY5 hU5)⟩
  ·
    go_simp
    have H26 := Lib.hid (top_blk V #[.int .u64 va] 38)
    have HQ26 := Lib.hid (show wc.heap.size ≤ V.heap.size from HG.out.size)
    (try have HB := Lib.hid (HB.out.alloc HB.out.size (.cells #[.int .u64 va] 38)))
    have HG := Lib.hid (HG.out.alloc (.cells #[.int .u64 va] 38))
    have HG1 := Lib.hid (grown_alloc HG1.out (.cells #[.int .u64 va] 38))
    (try have H13 := Lib.hid (blk_alloc H13.out (.cells #[.int .u64 va] 38)))
    (try have HR14 := Lib.hid (rw_alloc HR14.out (.cells #[.int .u64 va] 38)))
    refine letK ?_
    intro V hV
    rw [← hV] at H26 HG HG1
    (try rw [← hV] at HB)
    (try rw [← hV] at H13)
    (try rw [← hV] at HR14)
    clear hV
    refine hK.out _ _ (.inr (HSK.out _ HG.out)) ?_
    clear hK K
    try simp only [Act.put, List.setIfInBounds_toArray, List.set_cons_zero, List.set_cons_succ]
    refine wpY_one (i := 13) (by kernel_rfl) rfl (fun K hK => ?_)
    go_simp
    have H13 := Lib.hid (top_blk V #[(.slice (ka).A (ka).l.length (ka).c)] 22)
    have HQ13 := Lib.hid (show wc.heap.size ≤ V.heap.size from HG.out.size)
    have HB := Lib.hid (HB.out.alloc HB.out.size (.cells #[(.slice (ka).A (ka).l.length (ka).c)] 22))
    have HG := Lib.hid (HG.out.alloc (.cells #[(.slice (ka).A (ka).l.length (ka).c)] 22))
    have HG1 := Lib.hid (grown_alloc HG1.out (.cells #[(.slice (ka).A (ka).l.length (ka).c)] 22))
    (try have H26 := Lib.hid (blk_alloc H26.out (.cells #[(.slice (ka).A (ka).l.length (ka).c)] 22)))
    refine letK ?_
    intro V hV
    rw [← hV] at H13 HB HG HG1
    (try rw [← hV] at H26)
    clear hV
    refine hK.out _ _ (.inr (HSK.out _ HG.out)) ?_
    clear hK K
    try simp only [Act.put, List.setIfInBounds_toArray, List.set_cons_zero, List.set_cons_succ]
    refine wpY_one (i := 14) (by kernel_rfl) rfl (fun K hK => ?_)
    obtain ⟨vk', V', hrun, hr2, hg2, hn2⟩ := HKI.out V HB.out _ H13.out
    obtain ⟨Ak, lk, ck, rfl⟩ := rw_slice hr2
    refine step_run rfl (.tmp 145) (.tmp 153) 69 69 rfl _ _ (by rfl) (by rfl) _ _ hrun ?_
    clear hrun
    have HR14 := Lib.hid hr2
    have HN14 := Lib.hid hn2
    have HG := Lib.hid (HG.out.grownL hg2)
    have HG1 := Lib.hid (HG1.out.trans hg2)
    (try have H26 := Lib.hid (blk_apart H26.out hg2 (fun e => by have := HYK.out _ e; have := HQ26.out; omega)))
    clear hr2 hg2 hn2 HB H13
    refine letK ?_
    intro V hV
    rw [← hV] at HR14 HG HG1
    (try rw [← hV] at H26)
    clear hV
    refine hK.out _ _ (.inr (HSK.out _ HG.out)) ?_
    clear hK K
    try simp only [Act.put, List.setIfInBounds_toArray]
    refine wpY_one (i := 27) (by kernel_rfl) rfl (fun K hK => ?_)
    obtain ⟨vv', V', hrun, hr3, hg3, hn3⟩ := HVI.out V HG1.out _ H26.out
    obtain ⟨Av, lv, cv, rfl⟩ := rw_slice hr3
    refine step_run rfl (.tmp 158) (.tmp 166) 51 51 rfl _ _ (by rfl) (by rfl) _ _ hrun ?_
    clear hrun
    have HR27 := Lib.hid hr3
    have HN27 := Lib.hid hn3
    have HR14 := Lib.hid (rw_apart HR14.out (HYV.out _ HG1.out) hg3 (by decide))
    have HG := Lib.hid (HG.out.grownR hg3)
    clear hr3 hg3 hn3 HG1 H26
    refine letK ?_
    intro V hV
    rw [← hV] at HR14 HR27 HG
    clear hV
    obtain ⟨f0, f1, -, f3⟩ := HYN.out.own2 HG.out
    have f30 := f3 0
    have f31 := f3 1
    clear f3
    refine hK.out _ _ (.inr (HSK.out _ HG.out)) ?_
    clear hK K
    try simp only [Act.put]
    refine wpY_one (i := 28) (by kernel_rfl) rfl (fun K hK => ?_)
    go_simp
    refine hK.out _ _ (.inl (by decide)) ?_
    clear hK K
    try simp only [Act.put, List.setIfInBounds_toArray, List.set_cons_zero, List.set_cons_succ]
    refine wpY_one (i := 29) (by kernel_rfl) rfl (fun K hK => ?_)
    go_simp
    refine hK.out _ _ (.inl (by decide)) ?_
    clear hK K
    try simp only [Act.put, List.setIfInBounds_toArray, List.set_cons_zero, List.set_cons_succ]
    refine wpY_one (i := 30) (by kernel_rfl) rfl (fun K hK => ?_)
    go_simp
    refine hK.out _ _ (.inl (by decide)) ?_
    clear hK K
    try simp only [Act.put, List.setIfInBounds_toArray, List.set_cons_zero, List.set_cons_succ]
    refine wpY_one (i := 31) (by kernel_rfl) rfl (fun K hK => ?_)
    go_simp
    refine hK.out _ _ (.inl (by decide)) ?_
    clear hK K
    try simp only [Act.put, List.setIfInBounds_toArray, List.set_cons_zero, List.set_cons_succ]
    refine wpY_one (i := 32) (by kernel_rfl) rfl (fun K hK => ?_)
    go_simp
    refine hK.out _ _ (.inl (by decide)) ?_
    clear hK K
    try simp only [Act.put, List.setIfInBounds_toArray, List.set_cons_zero, List.set_cons_succ]
    refine wpY_one (i := 33) (by kernel_rfl) rfl (fun K hK => ?_)
    go_simp
    refine hK.out _ _ (.inl (by decide)) ?_
    clear hK K
    try simp only [Act.put, List.setIfInBounds_toArray, List.set_cons_zero, List.set_cons_succ]
    refine wpY_done (by kernel_rfl) ?_ _
    apply hQ
    obtain ⟨hY5, hU5⟩ := NdAt.skv HS.out.up.fb HYN.out HG.out HR14.out HR27.out HN14.out HN27.out HOK.out
    exact ⟨_, Lib.hid (HS.out.stepX HF.out hax hxy hY5 hU5)⟩
noncomputable def shL_11_code : Code := ((Try.f107.body.bind (findRg 11)).getD .skip)
set_option maxRecDepth 1000000 in
set_option maxHeartbeats 8000000 in
theorem shL_11 (a x y i : Nat) (w : World) (o : Nat → Nat) (FA FX FY : Nf Ky) (HF : Hid (Fb o w)) (hax : a ≠ x) (hay : a ≠ y) (_hxy : x ≠ y) (L : Nat) (hL : FY.ks.length = L) (hL2 : FY.vs.length = L) (hL1 : 0 < L) (hL3 : L ≤ 1000) (ka ke : Ky) (va ve : Int) (hka : FA.ks[i]? = some ka) (hva : FA.vs[i]? = some va) (hke : FY.ks[0]? = some ke) (hve : FY.vs[0]? = some ve) (wc : World) (oc : Nat → Nat) (HS : Hid (Th w o a x y FA FX FY wc oc)) {Q : Exit → Act → World → Prop} (t2 t3 t4 t5 t6 t8 t9 t10 t11 t12 t13 t14 t15 t16 t17 t18 t19 t20 t21 t22 t23 t24 t25 t26 t27 t28 t29 t30 t31 t32 t33 t34 t35 t36 t37 t38 t39 t40 t41 t42 t43 t44 t45 t46 t47 t48 t49 t50 t51 t52 t53 t54 t55 t56 t57 t58 t59 t60 t61 t62 t63 t64 t65 t66 t67 t68 t69 t70 t71 t72 t73 t74 t75 t76 t77 t78 t79 t80 t81 t82 t83 t84 t85 t86 t87 t88 t89 t90 t91 t92 t93 t94 t95 t96 t97 t98 t99 t100 t101 t102 t103 t104 t105 t106 t107 t108 t109 t110 t111 t112 t113 t114 t115 t116 t117 t118 t119 t120 t121 t122 t123 t124 t125 t126 t127 t128 t129 t130 t131 t132 t133 t134 t135 t136 t137 t138 t139 t140 t141 t142 t143 t144 t145 t146 t147 t148 t149 t150 t151 t152 t153 t154 t155 t156 t157 t158 t159 t160 t161 t162 t163 t164 t165 t166 t167 t168 t169 t170 t171 t172 t173 t174 t175 t176 t177 t178 t179 t180 t181 t182 t183 t184 t185 t186 t187 t188 t189 t190 t191 t192 t193 t194 t195 t196 t197 t198 t199 t200 t201 t202 t203 t204 t205 t206 t207 t208 t209 t210 t211 t212 t213 t214 t215 t216 t217 t218 t219 t220 t221 t222 t223 t224 t225 t226 t227 t228 t229 t230 t231 t232 t233 t234 t235 t236 t237 t238 t239 t240 : Value) (hQ : ∀ (u172 u173 u174 u175 u176 u177 u178 u179 u180 u181 u182 u183 u184 u185 u186 u187 u188 u189 u190 u191 u192 u193 u194 u195 : Value) (w' : World), (∃ oc4, Hid (Th w o a x y ⟨FA.ks.set i ke, FA.vs.set i ve, FA.cs⟩ FX FY w' oc4)) → Q .normal ⟨(.pointer (some ⟨a, 0, none⟩) :: .int .i64 i :: t2 :: t3 :: t4 :: t5 :: t6 :: .pointer (some ⟨y, 0, none⟩) :: t8 :: t9 :: t10 :: t11 :: t12 :: t13 :: t14 :: t15 :: t16 :: t17 :: t18 :: t19 :: t20 :: t21 :: t22 :: t23 :: t24 :: t25 :: t26 :: t27 :: t28 :: t29 :: t30 :: t31 :: t32 :: t33 :: t34 :: t35 :: t36 :: t37 :: t38 :: t39 :: t40 :: t41 :: t42 :: t43 :: t44 :: t45 :: t46 :: t47 :: t48 :: t49 :: t50 :: t51 :: t52 :: t53 :: t54 :: t55 :: t56 :: t57 :: t58 :: t59 :: t60 :: t61 :: t62 :: t63 :: t64 :: t65 :: t66 :: t67 :: t68 :: t69 :: t70 :: t71 :: t72 :: t73 :: t74 :: t75 :: t76 :: t77 :: t78 :: t79 :: t80 :: t81 :: t82 :: t83 :: t84 :: t85 :: t86 :: t87 :: t88 :: t89 :: t90 :: t91 :: t92 :: t93 :: t94 :: t95 :: t96 :: t97 :: t98 :: t99 :: t100 :: t101 :: t102 :: t103 :: t104 :: t105 :: t106 :: t107 :: t108 :: t109 :: t110 :: t111 :: t112 :: t113 :: t114 :: t115 :: t116 :: t117 :: t118 :: t119 :: t120 :: t121 :: t122 :: t123 :: t124 :: t125 :: t126 :: t127 :: t128 :: t129 :: t130 :: t131 :: t132 :: t133 :: t134 :: t135 :: t136 :: t137 :: t138 :: t139 :: t140 :: t141 :: t142 :: t143 :: t144 :: t145 :: t146 :: t147 :: t148 :: t149 :: t150 :: t151 :: t152 :: t153 :: t154 :: t155 :: t156 :: t157 :: t158 :: t159 :: t160 :: t161 :: t162 :: t163 :: t164 :: t165 :: t166 :: t167 :: t168 :: t169 :: t170 :: t171 :: u172 :: u173 :: u174 :: u175 :: u176 :: u177 :: u178 :: u179 :: u180 :: u181 :: u182 :: u183 :: u184 :: u185 :: u186 :: u187 :: u188 :: u189 :: u190 :: u191 :: u192 :: u193 :: u194 :: u195 :: t196 :: t197 :: t198 :: t199 :: t200 :: t201 :: t202 :: t203 :: t204 :: t205 :: t206 :: t207 :: t208 :: t209 :: t210 :: t211 :: t212 :: t213 :: t214 :: t215 :: t216 :: t217 :: t218 :: t219 :: t220 :: t221 :: t222 :: t223 :: t224 :: t225 :: t226 :: t227 :: t228 :: t229 :: t230 :: t231 :: t232 :: t233 :: t234 :: t235 :: t236 :: t237 :: t238 :: t239 :: t240 :: []).toArray, []⟩ w') :
    Code.wp Try.prog shL_11_code Q ⟨(.pointer (some ⟨a, 0, none⟩) :: .int .i64 i :: t2 :: t3 :: t4 :: t5 :: t6 :: .pointer (some ⟨y, 0, none⟩) :: t8 :: t9 :: t10 :: t11 :: t12 :: t13 :: t14 :: t15 :: t16 :: t17 :: t18 :: t19 :: t20 :: t21 :: t22 :: t23 :: t24 :: t25 :: t26 :: t27 :: t28 :: t29 :: t30 :: t31 :: t32 :: t33 :: t34 :: t35 :: t36 :: t37 :: t38 :: t39 :: t40 :: t41 :: t42 :: t43 :: t44 :: t45 :: t46 :: t47 :: t48 :: t49 :: t50 :: t51 :: t52 :: t53 :: t54 :: t55 :: t56 :: t57 :: t58 :: t59 :: t60 :: t61 :: t62 :: t63 :: t64 :: t65 :: t66 :: t67 :: t68 :: t69 :: t70 :: t71 :: t72 :: t73 :: t74 :: t75 :: t76 :: t77 :: t78 :: t79 :: t80 :: t81 :: t82 :: t83 :: t84 :: t85 :: t86 :: t87 :: t88 :: t89 :: t90 :: t91 :: t92 :: t93 :: t94 :: t95 :: t96 :: t97 :: t98 :: t99 :: t100 :: t101 :: t102 :: t103 :: t104 :: t105 :: t106 :: t107 :: t108 :: t109 :: t110 :: t111 :: t112 :: t113 :: t114 :: t115 :: t116 :: t117 :: t118 :: t119 :: t120 :: t121 :: t122 :: t123 :: t124 :: t125 :: t126 :: t127 :: t128 :: t129 :: t130 :: t131 :: t132 :: t133 :: t134 :: t135 :: t136 :: t137 :: t138 :: t139 :: t140 :: t141 :: t142 :: t143 :: t144 :: t145 :: t146 :: t147 :: t148 :: t149 :: t150 :: t151 :: t152 :: t153 :: t154 :: t155 :: t156 :: t157 :: t158 :: t159 :: t160 :: t161 :: t162 :: t163 :: t164 :: t165 :: t166 :: t167 :: t168 :: t169 :: t170 :: t171 :: t172 :: t173 :: t174 :: t175 :: t176 :: t177 :: t178 :: t179 :: t180 :: t181 :: t182 :: t183 :: t184 :: t185 :: t186 :: t187 :: t188 :: t189 :: t190 :: t191 :: t192 :: t193 :: t194 :: t195 :: t196 :: t197 :: t198 :: t199 :: t200 :: t201 :: t202 :: t203 :: t204 :: t205 :: t206 :: t207 :: t208 :: t209 :: t210 :: t211 :: t212 :: t213 :: t214 :: t215 :: t216 :: t217 :: t218 :: t219 :: t220 :: t221 :: t222 :: t223 :: t224 :: t225 :: t226 :: t227 :: t228 :: t229 :: t230 :: t231 :: t232 :: t233 :: t234 :: t235 :: t236 :: t237 :: t238 :: t239 :: t240 :: []).toArray, []⟩ wc := by
  refine wp_onN ?_
  conv => arg 2; whnf
  obtain ⟨ak, av, ac, hA⟩ := HS.out.na
  obtain ⟨xk, xv, xc, hX⟩ := HS.out.ny
  obtain ⟨gk, c1, gv, c2, rfl, rfl, -, -, hi3, hi4⟩ := hA.rows hka hva
  obtain ⟨hk, d1, hv, d2, rfl, rfl, -, -, -, -⟩ := hX.rows hke hve
  obtain ⟨a0, k0⟩ := hA.kat hka
  obtain ⟨a1, v0⟩ := hA.vat hva
  obtain ⟨x0, k1⟩ := hX.kat hke
  obtain ⟨x1, v1⟩ := hX.vat hve
  rw [hL] at x0
  rw [hL2] at x1
  obtain ⟨cur1, hb1⟩ := hA.rk.blk rfl
  obtain ⟨cur2, hb2⟩ := hA.rv.blk rfl
  have f1 := blk_frozen hb1 i
  have f2 := blk_frozen hb2 i
  have hg1 : ¬ gk = gv := blk_ne hb1 hb2 (by decide)
  have hg2 : ¬ gv = gk := fun e => hg1 e.symm
  have hw6 : 0 < (L : Int) := by omega
  have hw7 : 1 ≤ (L : Int) := by omega
  have HA := Lib.hid hA
  have HX := Lib.hid hX
  clear hA hX hb1 hb2
  go_region
  all_goals
    apply hQ
    obtain ⟨hA5, hU5⟩ := HA.out.kset HS.out.up.fb i ke (HX.out.ok ke (List.mem_of_getElem? hke))
    obtain ⟨hA6, hU6⟩ := hA5.vset hU5.fb i ve
    exact ⟨_, Lib.hid ((HS.out.stepA HF.out hax hay hA5 hU5).stepA HF.out hax hay hA6 hU6).drew⟩
noncomputable def shL_12_code : Code := ((Try.f107.body.bind (findRg 12)).getD .skip)
set_option maxRecDepth 1000000 in
set_option maxHeartbeats 8000000 in
theorem shL_12 (a x y _i : Nat) (w : World) (o : Nat → Nat) (FA FX FY : Nf Ky) (HF : Hid (Fb o w)) (_hax : a ≠ x) (hay : a ≠ y) (hxy : x ≠ y) (l1 : 0 < FY.ks.length) (l2 : FY.ks.length ≤ 1000) (l3 : 0 < FY.vs.length) (l4 : FY.vs.length ≤ 1000) (wc : World) (oc : Nat → Nat) (HS : Hid (Th w o a x y FA FX FY wc oc)) {Q : Exit → Act → World → Prop} (t0 t1 t2 t3 t4 t5 t6 t8 t9 t10 t11 t12 t13 t14 t15 t16 t17 t18 t19 t20 t21 t22 t23 t24 t25 t26 t27 t28 t29 t30 t31 t32 t33 t34 t35 t36 t37 t38 t39 t40 t41 t42 t43 t44 t45 t46 t47 t48 t49 t50 t51 t52 t53 t54 t55 t56 t57 t58 t59 t60 t61 t62 t63 t64 t65 t66 t67 t68 t69 t70 t71 t72 t73 t74 t75 t76 t77 t78 t79 t80 t81 t82 t83 t84 t85 t86 t87 t88 t89 t90 t91 t92 t93 t94 t95 t96 t97 t98 t99 t100 t101 t102 t103 t104 t105 t106 t107 t108 t109 t110 t111 t112 t113 t114 t115 t116 t117 t118 t119 t120 t121 t122 t123 t124 t125 t126 t127 t128 t129 t130 t131 t132 t133 t134 t135 t136 t137 t138 t139 t140 t141 t142 t143 t144 t145 t146 t147 t148 t149 t150 t151 t152 t153 t154 t155 t156 t157 t158 t159 t160 t161 t162 t163 t164 t165 t166 t167 t168 t169 t170 t171 t172 t173 t174 t175 t176 t177 t178 t179 t180 t181 t182 t183 t184 t185 t186 t187 t188 t189 t190 t191 t192 t193 t194 t195 t196 t197 t198 t199 t200 t201 t202 t203 t204 t205 t206 t207 t208 t209 t210 t211 t212 t213 t214 t215 t216 t217 t218 t219 t220 t221 t222 t223 t224 t225 t226 t227 t228 t229 t230 t231 t232 t233 t234 t235 t236 t237 t238 t239 t240 : Value) (hQ : ∀ (u196 u197 u198 u199 u200 u201 u202 u203 u204 u205 u206 u207 u208 u209 u210 u211 : Value) (w' : World), (∃ oc4, Hid (Th w o a x y FA FX ⟨FY.ks.drop 1, FY.vs.drop 1, FY.cs⟩ w' oc4)) → Q .normal ⟨(t0 :: t1 :: t2 :: t3 :: t4 :: t5 :: t6 :: .pointer (some ⟨y, 0, none⟩) :: t8 :: t9 :: t10 :: t11 :: t12 :: t13 :: t14 :: t15 :: t16 :: t17 :: t18 :: t19 :: t20 :: t21 :: t22 :: t23 :: t24 :: t25 :: t26 :: t27 :: t28 :: t29 :: t30 :: t31 :: t32 :: t33 :: t34 :: t35 :: t36 :: t37 :: t38 :: t39 :: t40 :: t41 :: t42 :: t43 :: t44 :: t45 :: t46 :: t47 :: t48 :: t49 :: t50 :: t51 :: t52 :: t53 :: t54 :: t55 :: t56 :: t57 :: t58 :: t59 :: t60 :: t61 :: t62 :: t63 :: t64 :: t65 :: t66 :: t67 :: t68 :: t69 :: t70 :: t71 :: t72 :: t73 :: t74 :: t75 :: t76 :: t77 :: t78 :: t79 :: t80 :: t81 :: t82 :: t83 :: t84 :: t85 :: t86 :: t87 :: t88 :: t89 :: t90 :: t91 :: t92 :: t93 :: t94 :: t95 :: t96 :: t97 :: t98 :: t99 :: t100 :: t101 :: t102 :: t103 :: t104 :: t105 :: t106 :: t107 :: t108 :: t109 :: t110 :: t111 :: t112 :: t113 :: t114 :: t115 :: t116 :: t117 :: t118 :: t119 :: t120 :: t121 :: t122 :: t123 :: t124 :: t125 :: t126 :: t127 :: t128 :: t129 :: t130 :: t131 :: t132 :: t133 :: t134 :: t135 :: t136 :: t137 :: t138 :: t139 :: t140 :: t141 :: t142 :: t143 :: t144 :: t145 :: t146 :: t147 :: t148 :: t149 :: t150 :: t151 :: t152 :: t153 :: t154 :: t155 :: t156 :: t157 :: t158 :: t159 :: t160 :: t161 :: t162 :: t163 :: t164 :: t165 :: t166 :: t167 :: t168 :: t169 :: t170 :: t171 :: t172 :: t173 :: t174 :: t175 :: t176 :: t177 :: t178 :: t179 :: t180 :: t181 :: t182 :: t183 :: t184 :: t185 :: t186 :: t187 :: t188 :: t189 :: t190 :: t191 :: t192 :: t193 :: t194 :: t195 :: u196 :: u197 :: u198 :: u199 :: u200 :: u201 :: u202 :: u203 :: u204 :: u205 :: u206 :: u207 :: u208 :: u209 :: u210 :: u211 :: t212 :: t213 :: t214 :: t215 :: t216 :: t217 :: t218 :: t219 :: t220 :: t221 :: t222 :: t223 :: t224 :: t225 :: t226 :: t227 :: t228 :: t229 :: t230 :: t231 :: t232 :: t233 :: t234 :: t235 :: t236 :: t237 :: t238 :: t239 :: t240 :: []).toArray, []⟩ w') :
    Code.wp Try.prog shL_12_code Q ⟨(t0 :: t1 :: t2 :: t3 :: t4 :: t5 :: t6 :: .pointer (some ⟨y, 0, none⟩) :: t8 :: t9 :: t10 :: t11 :: t12 :: t13 :: t14 :: t15 :: t16 :: t17 :: t18 :: t19 :: t20 :: t21 :: t22 :: t23 :: t24 :: t25 :: t26 :: t27 :: t28 :: t29 :: t30 :: t31 :: t32 :: t33 :: t34 :: t35 :: t36 :: t37 :: t38 :: t39 :: t40 :: t41 :: t42 :: t43 :: t44 :: t45 :: t46 :: t47 :: t48 :: t49 :: t50 :: t51 :: t52 :: t53 :: t54 :: t55 :: t56 :: t57 :: t58 :: t59 :: t60 :: t61 :: t62 :: t63 :: t64 :: t65 :: t66 :: t67 :: t68 :: t69 :: t70 :: t71 :: t72 :: t73 :: t74 :: t75 :: t76 :: t77 :: t78 :: t79 :: t80 :: t81 :: t82 :: t83 :: t84 :: t85 :: t86 :: t87 :: t88 :: t89 :: t90 :: t91 :: t92 :: t93 :: t94 :: t95 :: t96 :: t97 :: t98 :: t99 :: t100 :: t101 :: t102 :: t103 :: t104 :: t105 :: t106 :: t107 :: t108 :: t109 :: t110 :: t111 :: t112 :: t113 :: t114 :: t115 :: t116 :: t117 :: t118 :: t119 :: t120 :: t121 :: t122 :: t123 :: t124 :: t125 :: t126 :: t127 :: t128 :: t129 :: t130 :: t131 :: t132 :: t133 :: t134 :: t135 :: t136 :: t137 :: t138 :: t139 :: t140 :: t141 :: t142 :: t143 :: t144 :: t145 :: t146 :: t147 :: t148 :: t149 :: t150 :: t151 :: t152 :: t153 :: t154 :: t155 :: t156 :: t157 :: t158 :: t159 :: t160 :: t161 :: t162 :: t163 :: t164 :: t165 :: t166 :: t167 :: t168 :: t169 :: t170 :: t171 :: t172 :: t173 :: t174 :: t175 :: t176 :: t177 :: t178 :: t179 :: t180 :: t181 :: t182 :: t183 :: t184 :: t185 :: t186 :: t187 :: t188 :: t189 :: t190 :: t191 :: t192 :: t193 :: t194 :: t195 :: t196 :: t197 :: t198 :: t199 :: t200 :: t201 :: t202 :: t203 :: t204 :: t205 :: t206 :: t207 :: t208 :: t209 :: t210 :: t211 :: t212 :: t213 :: t214 :: t215 :: t216 :: t217 :: t218 :: t219 :: t220 :: t221 :: t222 :: t223 :: t224 :: t225 :: t226 :: t227 :: t228 :: t229 :: t230 :: t231 :: t232 :: t233 :: t234 :: t235 :: t236 :: t237 :: t238 :: t239 :: t240 :: []).toArray, []⟩ wc := by
  refine wp_onN ?_
  conv => arg 2; whnf
  obtain ⟨yk, yv, yc, hY⟩ := HS.out.ny
  obtain ⟨E1, e1, E2, e2, E3, e3, rfl, rfl, rfl, -⟩ := hY.row
  have HKI := Lib.hid (show ∀ V, Below wc.heap.size wc V → Calls Try.prog 91 #[.slice E1 FY.ks.length e1, .int .i64 0, .int .i64 1] V fun e w2 => ∃ v', e = .returned v' ∧ Rw w2 22 v' (ksR (FY.ks.drop 1)) ∧ V.grownBy w2 (Value.slice E1 FY.ks.length e1).ownBlock ∧ Nw wc (.slice E1 FY.ks.length e1) v' from fun V hb => key_delW hY (by omega) 0 (by omega) 0 1 rfl rfl (FY.ks.drop 1) rfl hb)
  have HVI := Lib.hid (show ∀ V, wc.grownBy V (Value.slice E1 FY.ks.length e1).ownBlock → Calls Try.prog 83 #[.slice E2 FY.vs.length e2, .int .i64 0, .int .i64 1] V fun e w2 => ∃ v', e = .returned v' ∧ Rw w2 38 v' (vsR (FY.vs.drop 1)) ∧ V.grownBy w2 (Value.slice E2 FY.vs.length e2).ownBlock ∧ Nw wc (.slice E2 FY.vs.length e2) v' from fun V hb => val_delW hY (by omega) 0 (by omega) 0 1 rfl rfl (FY.vs.drop 1) rfl hb)
  have HSK := Lib.hid (fun V (hg : Gr2 wc V (.slice E1 FY.ks.length e1) (.slice E2 FY.vs.length e2)) => And.intro (hY.own2 hg).1 (hY.own2 hg).2.1)
  have HYV := Lib.hid (fun V (hg : wc.grownBy V (Value.slice E1 FY.ks.length e1).ownBlock) => rw_apart hY.rv hY.rk hg (by decide))
  have HOK := Lib.hid (show ∀ k ∈ FY.ks.drop 1, KOk wc oc k from fun k hk => hY.ok k (List.mem_of_mem_drop hk))
  have HYN := Lib.hid hY
  clear hY
  refine wp_region_Y1 (by kernel_rfl) ?_
  intro V hV
  refine wpY_take (i := 0) (v := ?_) [] rfl (by kernel_rfl) (by kernel_rfl) (by kernel_rfl) (by kernel_rfl) (fun _ _ _ h => h) (Or.inl ⟨by rfl, ?_⟩) trivial ?_
  rotate_left
  · (intro wS hSw; (try dsimp only at hSw); go_simp; (try (with_reducible rfl)))
  try simp only [Act.put, List.setIfInBounds_toArray]
  refine wpY_take (i := 1) (v := ?_) [] rfl (by kernel_rfl) (by kernel_rfl) (by kernel_rfl) (by kernel_rfl) (fun _ _ _ h => h) (Or.inl ⟨by rfl, ?_⟩) trivial ?_
  rotate_left
  · (intro wS hSw; (try dsimp only at hSw); go_simp; (try (with_reducible rfl)))
  try simp only [Act.put]
  refine wpY_take (i := 2) (v := ?_) [] rfl (by kernel_rfl) (by kernel_rfl) (by kernel_rfl) (by kernel_rfl) (fun _ _ _ h => h) (Or.inl ⟨by rfl, ?_⟩) trivial ?_
  rotate_left
  · (intro wS hSw; (try dsimp only at hSw); go_simp; (try (with_reducible rfl)))
  try simp only [Act.put]
  refine wpY_take (i := 3) (v := ?_) [] rfl (by kernel_rfl) (by kernel_rfl) (by kernel_rfl) (by kernel_rfl) (fun _ _ _ h => h) (Or.inl ⟨by rfl, ?_⟩) trivial ?_
  rotate_left
  · (intro wS hSw; (try dsimp only at hSw); go_simp; (try (with_reducible rfl)))
  try simp only [Act.put]
  refine wpY_take (i := 4) (v := ?_) [] rfl (by kernel_rfl) (by kernel_rfl) (by kernel_rfl) (by kernel_rfl) (fun _ _ _ h => h) (Or.inl ⟨by rfl, ?_⟩) trivial ?_
  rotate_left
  · (intro wS hSw; (try dsimp only at hSw); go_simp; (try (with_reducible rfl)))
  try simp only [Act.put]
  refine wpY_take (i := 7) (v := ?_) [] rfl (by kernel_rfl) (by kernel_rfl) (by kernel_rfl) (by kernel_rfl) (fun _ _ _ h => h) (Or.inl ⟨by rfl, ?_⟩) trivial ?_
  rotate_left
  · (intro wS hSw; (try dsimp only at hSw); go_simp; (try (with_reducible rfl)))
  try simp only [Act.put]
  refine wpY_take (i := 8) (v := ?_) [] rfl (by kernel_rfl) (by kernel_rfl) (by kernel_rfl) (by kernel_rfl) (fun _ _ _ h => h) (Or.inl ⟨by rfl, ?_⟩) trivial ?_
  rotate_left
  · (intro wS hSw; (try dsimp only at hSw); go_simp; (try (with_reducible rfl)))
  try simp only [Act.put]
  refine wpY_take (i := 9) (v := ?_) [] rfl (by kernel_rfl) (by kernel_rfl) (by kernel_rfl) (by kernel_rfl) (fun _ _ _ h => h) (Or.inl ⟨by rfl, ?_⟩) trivial ?_
  rotate_left
  · (intro wS hSw; (try dsimp only at hSw); go_simp; (try (with_reducible rfl)))
  try simp only [Act.put]
  have HB := Lib.hid (show Below wc.heap.size wc V from by rw [hV]; exact (Below.refl _ _).drew)
  clear hV
  have HG := Lib.hid (show Gr2 wc V (.slice E1 FY.ks.length e1) (.slice E2 FY.vs.length e2) from Gr2.below HB.out)
  have HG1 := Lib.hid (show wc.grownBy V (Value.slice E1 FY.ks.length e1).ownBlock from below_grown HB.out _)
  have hS0 := HSK.out V HG.out
  refine wpY_swap ((fun W' => W'.cell? ⟨y, 0, none⟩ = some (.slice E1 FY.ks.length e1) ∧ W'.cell? ⟨y, 1, none⟩ = some (.slice E2 FY.vs.length e2))) [12, 13, 14, 15, 16, 17] ?_
  refine wpY_take (i := 5) (v := ?_) [[12], [13], [14], [15], [16], [17]] rfl (by kernel_rfl) (by kernel_rfl) (by kernel_rfl) (by kernel_rfl) (fun _ _ _ h => h) (Or.inl ⟨by rfl, ?_⟩) (by assumption) ?_
  rotate_left
  · (intro wS hSw; (try dsimp only at hSw); go_simp; (try (with_reducible rfl)))
  try simp only [Act.put]
  refine wpY_take (i := 10) (v := ?_) [[12], [13], [14], [15], [16], [17]] rfl (by kernel_rfl) (by kernel_rfl) (by kernel_rfl) (by kernel_rfl) (fun _ _ _ h => h) (Or.inl ⟨by rfl, ?_⟩) (by assumption) ?_
  rotate_left
  · (intro wS hSw; (try dsimp only at hSw); go_simp; (try (with_reducible rfl)))
  try simp only [Act.put]
  refine wpY_one (i := 6) (by kernel_rfl) rfl (fun K hK => ?_)
  go_simp
  refine (HKI.out V HB.out).mono ?_
  rintro e V ⟨vk', rfl, hr2, hg2, hn2⟩
  obtain ⟨Ak, lk, ck, rfl⟩ := rw_slice hr2
  have HR14 := Lib.hid hr2
  have HN14 := Lib.hid hn2
  have HG := Lib.hid (HG.out.grownL hg2)
  have HG1 := Lib.hid (HG1.out.trans hg2)
  clear hr2 hg2 hn2 HB
  refine hK.out _ _ (.inr (HSK.out _ HG.out)) ?_
  clear hK K
  try simp only [Act.put, List.setIfInBounds_toArray, List.set_cons_zero, List.set_cons_succ]
  refine wpY_one (i := 11) (by kernel_rfl) rfl (fun K hK => ?_)
  go_simp
  refine (HVI.out V HG1.out).mono ?_
  rintro e V ⟨vv', rfl, hr3, hg3, hn3⟩
  obtain ⟨Av, lv, cv, rfl⟩ := rw_slice hr3
  have HR27 := Lib.hid hr3
  have HN27 := Lib.hid hn3
  have HR14 := Lib.hid (rw_apart HR14.out (HYV.out _ HG1.out) hg3 (by decide))
  have HG := Lib.hid (HG.out.grownR hg3)
  clear hr3 hg3 hn3 HG1
  obtain ⟨f0, f1, -, f3⟩ := HYN.out.own2 HG.out
  have f30 := f3 0
  have f31 := f3 1
  clear f3
  refine hK.out _ _ (.inr (HSK.out _ HG.out)) ?_
  clear hK K
  try simp only [Act.put, List.setIfInBounds_toArray, List.set_cons_zero, List.set_cons_succ]
  refine wpY_one (i := 12) (by kernel_rfl) rfl (fun K hK => ?_)
  go_simp
  refine hK.out _ _ (.inl (by decide)) ?_
  clear hK K
  try simp only [Act.put, List.setIfInBounds_toArray, List.set_cons_zero, List.set_cons_succ]
  refine wpY_one (i := 13) (by kernel_rfl) rfl (fun K hK => ?_)
  go_simp
  refine hK.out _ _ (.inl (by decide)) ?_
  clear hK K
  try simp only [Act.put, List.setIfInBounds_toArray, List.set_cons_zero, List.set_cons_succ]
  refine wpY_one (i := 14) (by kernel_rfl) rfl (fun K hK => ?_)
  go_simp
  refine hK.out _ _ (.inl (by decide)) ?_
  clear hK K
  try simp only [Act.put, List.setIfInBounds_toArray, List.set_cons_zero, List.set_cons_succ]
  refine wpY_one (i := 15) (by kernel_rfl) rfl (fun K hK => ?_)
  go_simp
  refine hK.out _ _ (.inl (by decide)) ?_
  clear hK K
  try simp only [Act.put, List.setIfInBounds_toArray, List.set_cons_zero, List.set_cons_succ]
  refine wpY_one (i := 16) (by kernel_rfl) rfl (fun K hK => ?_)
  go_simp
  refine hK.out _ _ (.inl (by decide)) ?_
  clear hK K
  try simp only [Act.put, List.setIfInBounds_toArray, List.set_cons_zero, List.set_cons_succ]
  refine wpY_one (i := 17) (by kernel_rfl) rfl (fun K hK => ?_)
  go_simp
  refine hK.out _ _ (.inl (by decide)) ?_
  clear hK K
  try simp only [Act.put, List.setIfInBounds_toArray, List.set_cons_zero, List.set_cons_succ]
  refine wpY_done (by kernel_rfl) ?_ _
  apply hQ
  obtain ⟨hY5, hU5⟩ := NdAt.skv HS.out.up.fb HYN.out HG.out HR14.out HR27.out HN14.out HN27.out HOK.out
  exact ⟨_, Lib.hid (HS.out.stepY HF.out hay hxy hY5 hU5)⟩
noncomputable def shL_14_code : Code := ((Try.f107.body.bind (findRg 14)).getD .skip)
set_option maxRecDepth 1000000 in
set_option maxHeartbeats 8000000 in
theorem shL_14 (a x y _i : Nat) (w : World) (o : Nat → Nat) (FA FX FY : Nf Ky) (HF : Hid (Fb o w)) (hax : a ≠ x) (_hay : a ≠ y) (hxy : x ≠ y) (hlxc : FX.cs.length ≤ 1001) (C : Nat) (hC : C = FY.cs.length) (hlc : C ≤ 1001) (hz : ¬ C = 0) (ce : Nat) (hce : FY.cs[0]? = some ce) (wc : World) (oc : Nat → Nat) (HS : Hid (Th w o a x y FA FX FY wc oc)) {Q : Exit → Act → World → Prop} (t0 t1 t2 t3 t4 t5 t8 t9 t10 t11 t12 t13 t14 t15 t16 t17 t18 t19 t20 t21 t22 t23 t24 t25 t26 t27 t28 t29 t30 t31 t32 t33 t34 t35 t36 t37 t38 t39 t40 t41 t42 t43 t44 t45 t46 t47 t48 t49 t50 t51 t52 t53 t54 t55 t56 t57 t58 t59 t60 t61 t62 t63 t64 t65 t66 t67 t68 t69 t70 t71 t72 t73 t74 t75 t76 t77 t78 t79 t80 t81 t82 t83 t84 t85 t86 t87 t88 t89 t90 t91 t92 t93 t94 t95 t96 t97 t98 t99 t100 t101 t102 t103 t104 t105 t106 t107 t108 t109 t110 t111 t112 t113 t114 t115 t116 t117 t118 t119 t120 t121 t122 t123 t124 t125 t126 t127 t128 t129 t130 t131 t132 t133 t134 t135 t136 t137 t138 t139 t140 t141 t142 t143 t144 t145 t146 t147 t148 t149 t150 t151 t152 t153 t154 t155 t156 t157 t158 t159 t160 t161 t162 t163 t164 t165 t166 t167 t168 t169 t170 t171 t172 t173 t174 t175 t176 t177 t178 t179 t180 t181 t182 t183 t184 t185 t186 t187 t188 t189 t190 t191 t192 t193 t194 t195 t196 t197 t198 t199 t200 t201 t202 t203 t204 t205 t206 t207 t208 t209 t210 t211 t212 t213 t214 t215 t216 t217 t218 t219 t220 t221 t222 t223 t224 t225 t226 t227 t228 t229 t230 t231 t232 t233 t234 t235 t236 t237 t238 t239 t240 : Value) (hQ : ∀ (u218 u219 u220 u221 u222 u223 u224 u225 u226 u227 u228 u229 u230 u231 u232 : Value) (w' : World), (∃ oc5, Hid (Th w o a x y FA ⟨FX.ks, FX.vs, FX.cs ++ [ce]⟩ FY w' oc5)) → Q .normal ⟨(t0 :: t1 :: t2 :: t3 :: t4 :: t5 :: .pointer (some ⟨x, 0, none⟩) :: .pointer (some ⟨y, 0, none⟩) :: t8 :: t9 :: t10 :: t11 :: t12 :: t13 :: t14 :: t15 :: t16 :: t17 :: t18 :: t19 :: t20 :: t21 :: t22 :: t23 :: t24 :: t25 :: t26 :: t27 :: t28 :: t29 :: t30 :: t31 :: t32 :: t33 :: t34 :: t35 :: t36 :: t37 :: t38 :: t39 :: t40 :: t41 :: t42 :: t43 :: t44 :: t45 :: t46 :: t47 :: t48 :: t49 :: t50 :: t51 :: t52 :: t53 :: t54 :: t55 :: t56 :: t57 :: t58 :: t59 :: t60 :: t61 :: t62 :: t63 :: t64 :: t65 :: t66 :: t67 :: t68 :: t69 :: t70 :: t71 :: t72 :: t73 :: t74 :: t75 :: t76 :: t77 :: t78 :: t79 :: t80 :: t81 :: t82 :: t83 :: t84 :: t85 :: t86 :: t87 :: t88 :: t89 :: t90 :: t91 :: t92 :: t93 :: t94 :: t95 :: t96 :: t97 :: t98 :: t99 :: t100 :: t101 :: t102 :: t103 :: t104 :: t105 :: t106 :: t107 :: t108 :: t109 :: t110 :: t111 :: t112 :: t113 :: t114 :: t115 :: t116 :: t117 :: t118 :: t119 :: t120 :: t121 :: t122 :: t123 :: t124 :: t125 :: t126 :: t127 :: t128 :: t129 :: t130 :: t131 :: t132 :: t133 :: t134 :: t135 :: t136 :: t137 :: t138 :: t139 :: t140 :: t141 :: t142 :: t143 :: t144 :: t145 :: t146 :: t147 :: t148 :: t149 :: t150 :: t151 :: t152 :: t153 :: t154 :: t155 :: t156 :: t157 :: t158 :: t159 :: t160 :: t161 :: t162 :: t163 :: t164 :: t165 :: t166 :: t167 :: t168 :: t169 :: t170 :: t171 :: t172 :: t173 :: t174 :: t175 :: t176 :: t177 :: t178 :: t179 :: t180 :: t181 :: t182 :: t183 :: t184 :: t185 :: t186 :: t187 :: t188 :: t189 :: t190 :: t191 :: t192 :: t193 :: t194 :: t195 :: t196 :: t197 :: t198 :: t199 :: t200 :: t201 :: t202 :: t203 :: t204 :: t205 :: t206 :: t207 :: t208 :: t209 :: t210 :: t211 :: t212 :: t213 :: t214 :: t215 :: t216 :: t217 :: u218 :: u219 :: u220 :: u221 :: u222 :: u223 :: u224 :: u225 :: u226 :: u227 :: u228 :: u229 :: u230 :: u231 :: u232 :: t233 :: t234 :: t235 :: t236 :: t237 :: t238 :: t239 :: t240 :: []).toArray, []⟩ w') :
    Code.wp Try.prog shL_14_code Q ⟨(t0 :: t1 :: t2 :: t3 :: t4 :: t5 :: .pointer (some ⟨x, 0, none⟩) :: .pointer (some ⟨y, 0, none⟩) :: t8 :: t9 :: t10 :: t11 :: t12 :: t13 :: t14 :: t15 :: t16 :: t17 :: t18 :: t19 :: t20 :: t21 :: t22 :: t23 :: t24 :: t25 :: t26 :: t27 :: t28 :: t29 :: t30 :: t31 :: t32 :: t33 :: t34 :: t35 :: t36 :: t37 :: t38 :: t39 :: t40 :: t41 :: t42 :: t43 :: t44 :: t45 :: t46 :: t47 :: t48 :: t49 :: t50 :: t51 :: t52 :: t53 :: t54 :: t55 :: t56 :: t57 :: t58 :: t59 :: t60 :: t61 :: t62 :: t63 :: t64 :: t65 :: t66 :: t67 :: t68 :: t69 :: t70 :: t71 :: t72 :: t73 :: t74 :: t75 :: t76 :: t77 :: t78 :: t79 :: t80 :: t81 :: t82 :: t83 :: t84 :: t85 :: t86 :: t87 :: t88 :: t89 :: t90 :: t91 :: t92 :: t93 :: t94 :: t95 :: t96 :: t97 :: t98 :: t99 :: t100 :: t101 :: t102 :: t103 :: t104 :: t105 :: t106 :: t107 :: t108 :: t109 :: t110 :: t111 :: t112 :: t113 :: t114 :: t115 :: t116 :: t117 :: t118 :: t119 :: t120 :: t121 :: t122 :: t123 :: t124 :: t125 :: t126 :: t127 :: t128 :: t129 :: t130 :: t131 :: t132 :: t133 :: t134 :: t135 :: t136 :: t137 :: t138 :: t139 :: t140 :: t141 :: t142 :: t143 :: t144 :: t145 :: t146 :: t147 :: t148 :: t149 :: t150 :: t151 :: t152 :: t153 :: t154 :: t155 :: t156 :: t157 :: t158 :: t159 :: t160 :: t161 :: t162 :: t163 :: t164 :: t165 :: t166 :: t167 :: t168 :: t169 :: t170 :: t171 :: t172 :: t173 :: t174 :: t175 :: t176 :: t177 :: t178 :: t179 :: t180 :: t181 :: t182 :: t183 :: t184 :: t185 :: t186 :: t187 :: t188 :: t189 :: t190 :: t191 :: t192 :: t193 :: t194 :: t195 :: t196 :: t197 :: t198 :: t199 :: t200 :: t201 :: t202 :: t203 :: t204 :: t205 :: t206 :: t207 :: t208 :: t209 :: t210 :: t211 :: t212 :: t213 :: t214 :: t215 :: t216 :: t217 :: t218 :: t219 :: t220 :: t221 :: t222 :: t223 :: t224 :: t225 :: t226 :: t227 :: t228 :: t229 :: t230 :: t231 :: t232 :: t233 :: t234 :: t235 :: t236 :: t237 :: t238 :: t239 :: t240 :: []).toArray, []⟩ wc := by
  refine wp_onN ?_
  conv => arg 2; whnf
  obtain ⟨xk, xv, xc, hX⟩ := HS.out.ny
  obtain ⟨B1, d1, B2, d2, B3, d3, rfl, rfl, rfl, -, -, -⟩ := hX.row
  have hlx : 0 < FY.cs.length := by omega
  obtain ⟨gx, rfl, -, -⟩ := hX.ccell (i := 0) hlx
  have HX := Lib.hid hX
  have HC := Lib.hid hC
  have HCE := Lib.hid hce
  have hz1 : ¬ (C : Int) = 0 := by omega
  have hz3 : 1 ≤ (C : Int) := by omega
  have hz4 : (0 : Int) < (C : Int) := by omega
  have hz6 : 0 < C := by omega
  clear hX hC hce hlx
  obtain ⟨yk, yv, yc, hY⟩ := HS.out.nx
  obtain ⟨E1, e1, E2, e2, E3, e3, rfl, rfl, rfl, -⟩ := hY.row
  have HKI := Lib.hid (fun V hb gv hv => kid_appW hY (V := V) (by show FX.cs.length ≤ _; omega) ce hb gv hv)
  have HSK := Lib.hid (show ∀ V, wc.grownBy V (Value.slice E3 FX.cs.length e3).ownBlock → V.cell? ⟨x, 2, none⟩ = some (.slice E3 FX.cs.length e3) ∧ V.cell? ⟨y, 2, none⟩ = some (.slice (some ⟨gx, 0, none⟩) C d3) ∧ V.cell? ⟨gx, 0, none⟩ = some (.pointer (some ⟨ce, 0, none⟩)) from fun V hg => by
    have h1 := (hY.hold hg hY.nek.2.2).2.2.1
    have h2 := hY.apart HX.out (fun e => hxy e) (fun g e _ => hY.tc g e) hg
    have h3 := h2.cells.2.2
    obtain ⟨g', e', h4, -⟩ := h2.ccell (i := 0) (by show 0 < FY.cs.length; have := HC.out; omega)
    cases e'
    have h5 := HCE.out
    rw [List.getElem?_eq_getElem (by have := HC.out; omega), Option.some.injEq] at h5
    refine ⟨h1, by rw [HC.out]; exact h3, ?_⟩
    rw [← h5]
    exact h4)
  have HXN := Lib.hid hY
  clear hY
  unfold nv at HKI
  refine wp_region_Y1 (by kernel_rfl) ?_
  intro V hV
  refine wpY_take (i := 0) (v := ?_) [] rfl (by kernel_rfl) (by kernel_rfl) (by kernel_rfl) (by kernel_rfl) (fun _ _ _ h => h) (Or.inl ⟨by rfl, ?_⟩) trivial ?_
  rotate_left
  · (intro wS hSw; (try dsimp only at hSw); go_simp; (try (with_reducible rfl)))
  try simp only [Act.put, List.setIfInBounds_toArray]
  refine wpY_take (i := 1) (v := ?_) [] rfl (by kernel_rfl) (by kernel_rfl) (by kernel_rfl) (by kernel_rfl) (fun _ _ _ h => h) (Or.inl ⟨by rfl, ?_⟩) trivial ?_
  rotate_left
  · (intro wS hSw; (try dsimp only at hSw); go_simp; (try (with_reducible rfl)))
  try simp only [Act.put]
  refine wpY_take (i := 2) (v := ?_) [] rfl (by kernel_rfl) (by kernel_rfl) (by kernel_rfl) (by kernel_rfl) (fun _ _ _ h => h) (Or.inl ⟨by rfl, ?_⟩) trivial ?_
  rotate_left
  · (intro wS hSw; (try dsimp only at hSw); go_simp; (try (with_reducible rfl)))
  try simp only [Act.put]
  refine wpY_take (i := 3) (v := ?_) [] rfl (by kernel_rfl) (by kernel_rfl) (by kernel_rfl) (by kernel_rfl) (fun _ _ _ h => h) (Or.inl ⟨by rfl, ?_⟩) trivial ?_
  rotate_left
  · (intro wS hSw; (try dsimp only at hSw); go_simp; (try (with_reducible rfl)))
  try simp only [Act.put]
  refine wpY_take (i := 5) (v := ?_) [] rfl (by kernel_rfl) (by kernel_rfl) (by kernel_rfl) (by kernel_rfl) (fun _ _ _ h => h) (Or.inl ⟨by rfl, ?_⟩) trivial ?_
  rotate_left
  · (intro wS hSw; (try dsimp only at hSw); go_simp; (try (with_reducible rfl)))
  try simp only [Act.put]
  refine wpY_take (i := 6) (v := ?_) [] rfl (by kernel_rfl) (by kernel_rfl) (by kernel_rfl) (by kernel_rfl) (fun _ _ _ h => h) (Or.inl ⟨by rfl, ?_⟩) trivial ?_
  rotate_left
  · (intro wS hSw; (try dsimp only at hSw); go_simp; (try (with_reducible rfl)))
  try simp only [Act.put]
  refine wpY_take (i := 7) (v := ?_) [] rfl (by kernel_rfl) (by kernel_rfl) (by kernel_rfl) (by kernel_rfl) (fun _ _ _ h => h) (Or.inl ⟨by rfl, ?_⟩) trivial ?_
  rotate_left
  · (intro wS hSw; (try dsimp only at hSw); go_simp; (try (with_reducible rfl)))
  try simp only [Act.put]
  have HB := Lib.hid (show Below wc.heap.size wc V from by rw [hV]; exact (Below.refl _ _).drew)
  clear hV
  have HG := Lib.hid (show wc.grownBy V (Value.slice E3 FX.cs.length e3).ownBlock from below_grown HB.out _)
  have hS0 := HSK.out V HG.out
  refine wpY_swap ((fun W' => W'.cell? ⟨x, 2, none⟩ = some (.slice E3 FX.cs.length e3) ∧ W'.cell? ⟨y, 2, none⟩ = some (.slice (some ⟨gx, 0, none⟩) C d3) ∧ W'.cell? ⟨gx, 0, none⟩ = some (.pointer (some ⟨ce, 0, none⟩)))) [13, 14, 15] ?_
  refine wpY_take (i := 4) (v := ?_) [[13], [14], [15]] rfl (by kernel_rfl) (by kernel_rfl) (by kernel_rfl) (by kernel_rfl) (fun _ _ _ h => h) (Or.inl ⟨by rfl, ?_⟩) (by assumption) ?_
  rotate_left
  · (intro wS hSw; (try dsimp only at hSw); go_simp; (try (with_reducible rfl)))
  try simp only [Act.put]
  refine wpY_take (i := 8) (v := ?_) [[13], [14], [15]] rfl (by kernel_rfl) (by kernel_rfl) (by kernel_rfl) (by kernel_rfl) (fun _ _ _ h => h) (Or.inl ⟨by rfl, ?_⟩) (by assumption) ?_
  rotate_left
  · (intro wS hSw; (try dsimp only at hSw); go_simp; (try (with_reducible rfl)))
  try simp only [Act.put]
  refine wpY_take (i := 9) (v := ?_) [[13], [14], [15]] rfl (by kernel_rfl) (by kernel_rfl) (by kernel_rfl) (by kernel_rfl) (fun _ _ _ h => h) (Or.inl ⟨by rfl, ?_⟩) (by assumption) ?_
  rotate_left
  · (intro wS hSw; (try dsimp only at hSw); go_simp; (try (with_reducible rfl)))
  try simp only [Act.put]
  refine wpY_take (i := 10) (v := ?_) [[13], [14], [15]] rfl (by kernel_rfl) (by kernel_rfl) (by kernel_rfl) (by kernel_rfl) (fun _ _ _ h => h) (Or.inl ⟨by rfl, ?_⟩) (by assumption) ?_
  rotate_left
  · (intro wS hSw; (try dsimp only at hSw); go_simp; (try (with_reducible rfl)))
  try simp only [Act.put]
  refine wpY_one (i := 11) (by kernel_rfl) rfl (fun K hK => ?_)
  go_simp
  have H12 := Lib.hid (top_blk V #[.pointer (some ⟨ce, 0, none⟩)] 100)
  have HB := Lib.hid (HB.out.alloc HB.out.size (.cells #[.pointer (some ⟨ce, 0, none⟩)] 100))
  have HG := Lib.hid (grown_alloc HG.out (.cells #[.pointer (some ⟨ce, 0, none⟩)] 100))
  refine letK ?_
  intro V hV
  rw [← hV] at H12 HB HG
  clear hV
  refine hK.out _ _ (.inr (HSK.out _ HG.out)) ?_
  clear hK K
  try simp only [Act.put, List.setIfInBounds_toArray, List.set_cons_zero, List.set_cons_succ]
  refine wpY_one (i := 12) (by kernel_rfl) rfl (fun K hK => ?_)
  obtain ⟨vc', V', hrun, hr2, hg2, hn2⟩ := HKI.out V HB.out _ H12.out
  obtain ⟨Ac, lc, cc, rfl⟩ := rw_slice hr2
  refine step_run rfl (.tmp 222) (.tmp 229) 104 104 rfl _ _ (by rfl) (by rfl) _ _ hrun ?_
  clear hrun
  have HG := Lib.hid (HG.out.trans hg2)
  have HR2 := Lib.hid hr2
  have HN2 := Lib.hid hn2
  clear hr2 hn2 hg2
  refine letK ?_
  intro V hV
  rw [← hV] at HG HR2
  clear hV
  obtain ⟨-, -, f2, f3⟩ := HXN.out.hold HG.out HXN.out.nek.2.2
  have f32 := f3 2
  clear f3
  refine hK.out _ _ (.inr (HSK.out _ HG.out)) ?_
  clear hK K
  try simp only [Act.put, List.setIfInBounds_toArray]
  refine wpY_one (i := 13) (by kernel_rfl) rfl (fun K hK => ?_)
  go_simp
  refine hK.out _ _ (.inl (by decide)) ?_
  clear hK K
  try simp only [Act.put, List.setIfInBounds_toArray, List.set_cons_zero, List.set_cons_succ]
  refine wpY_one (i := 14) (by kernel_rfl) rfl (fun K hK => ?_)
  go_simp
  refine hK.out _ _ (.inl (by decide)) ?_
  clear hK K
  try simp only [Act.put, List.setIfInBounds_toArray, List.set_cons_zero, List.set_cons_succ]
  refine wpY_one (i := 15) (by kernel_rfl) rfl (fun K hK => ?_)
  go_simp
  refine hK.out _ _ (.inl (by decide)) ?_
  clear hK K
  try simp only [Act.put, List.setIfInBounds_toArray, List.set_cons_zero, List.set_cons_succ]
  refine wpY_done (by kernel_rfl) ?_ _
  apply hQ
  obtain ⟨hX5, hU5⟩ := HXN.out.sc (mid_plain HS.out.up.fb (Below.refl _ _) HG.out HN2.out) HR2.out
  exact ⟨_, Lib.hid (HS.out.stepX HF.out hax hxy hX5 hU5)⟩
set_option maxRecDepth 100000 in
set_option maxHeartbeats 8000000 in
theorem shiftL_any (a x y i L : Nat) (w : World) (o : Nat → Nat) (FA FX FY : Nf Ky) (hf : Fb o w) (ha : NdE w o a FA) (hx : NdE w o x FX) (hy : NdE w o y FY) (hax : a ≠ x) (hay : a ≠ y) (hxy : x ≠ y)
    (hix : FA.cs[i]? = some x) (hiy : FA.cs[i + 1]? = some y) (hla : FA.cs.length ≤ 1000) (hL : FY.ks.length = L) (hL2 : FY.vs.length = L) (hL1 : 0 < L) (hL3 : L ≤ 1000) (hlx : FX.ks.length ≤ 1000) (hlxv : FX.vs.length ≤ 1000) (hlxc : FX.cs.length ≤ 1001) (hlyc : FY.cs.length ≤ 1001) (ka ke : Ky) (va ve : Int) (hka : FA.ks[i]? = some ka) (hva : FA.vs[i]? = some va) (hke : FY.ks[0]? = some ke) (hve : FY.vs[0]? = some ve) :
    Calls Try.prog 107 #[nv a, .int .i64 i, .bool false] w (ShiftLP w o a x y FA FX FY i ka ke va ve) := by
  have HT := Lib.hid (Th.start hf ha hx hy)
  obtain ⟨ak, av, ac, hA⟩ := ha
  obtain ⟨-, -, ca2⟩ := hA.cells
  obtain ⟨A1, c1, A2, c2, A3, c3, rfl, rfl, rfl, -, -, -⟩ := hA.row
  have hil : i < FA.cs.length := (List.getElem?_eq_some_iff.1 hix).1
  have hil2 : i + 1 < FA.cs.length := (List.getElem?_eq_some_iff.1 hiy).1
  obtain ⟨gc, rfl, hc1, -⟩ := hA.ccell hil
  obtain ⟨gc', e0, hc2, -⟩ := hA.ccell hil2
  cases e0
  rw [List.getElem?_eq_getElem hil, Option.some.injEq] at hix
  rw [List.getElem?_eq_getElem hil2, Option.some.injEq] at hiy
  rw [hix] at hc1
  rw [hiy] at hc2
  have hi1 : (i : Int) < (FA.cs.length : Int) := by omega
  have hi2 : (i : Int) + 1 < (FA.cs.length : Int) := by omega
  have hw1 : IntKind.i64.wrap ((i : Int) + 1) = (i : Int) + 1 := by rw [IntKind.wrap_i64]; omega
  have hw2 : (0 : Int) ≤ (i : Int) + 1 := by omega
  have hw8 : ((i : Int) + 1).toNat = i + 1 := by omega
  have HF := Lib.hid hf
  clear hA hix hiy hf hx hy
  unfold nv at *
  go_enter Try.func107, Try.ntmps107
  go_wp2_with fail
  go_quiet (fail)
  go_wp2_with fail
  obtain ⟨wc, hwc⟩ : ∃ wc, wc = w.drewN nq := ⟨_, rfl⟩
  rw [← hwc]
  have HS := Lib.hid (show Th w o a x y FA FX FY wc o from by rw [hwc]; exact HT.out.drewN nq)
  clear hwc ca2 hc1 hc2 HT hw1 hw2 hw8 hi1 hi2 hil hil2
  go_cut [] (fun wc3 => ∃ oc3, Hid (Th w o a x y FA ⟨FX.ks ++ [ka], FX.vs ++ [va], FX.cs⟩ FY wc3 oc3))
  case first =>
    refine shL_10 a x y i w o FA FX FY HF hax hay hxy hlx hlxv ka va hka hva wc _ HS _ _ _ _ _ _ _ _ _ _ _ _ _ _ _ _ _ _ _ _ _ _ _ _ _ _ _ _ _ _ _ _ _ _ _ _ _ _ _ _ _ _ _ _ _ _ _ _ _ _ _ _ _ _ _ _ _ _ _ _ _ _ _ _ _ _ _ _ _ _ _ _ _ _ _ _ _ _ _ _ _ _ _ _ _ _ _ _ _ _ _ _ _ _ _ _ _ _ _ _ _ _ _ _ _ _ _ _ _ _ _ _ _ _ _ _ _ _ _ _ _ _ _ _ _ _ _ _ _ _ _ _ _ _ _ _ _ _ _ _ _ _ _ _ _ _ _ _ _ _ _ _ _ _ _ _ _ _ _ _ _ _ _ _ _ _ _ _ _ _ _ _ _ _ _ _ _ _ _ _ _ _ _ _ _ _ _ _ _ _ _ _ _ _ _ _ _ _ _ _ _ _ _ _ _ _ _ _ _ _ _ _ _ _ _ _ _ _ _ _ _ _ _ _ _ _ _ _ _ _ _ _ _ _ _ _ _ _ ?_
    intro _ _ _ _ _ _ _ _ _ _ _ _ _ _ _ _ _ _ _ _ _ _ _ _ _ _ _ _ _ _ _ _ w' hrel'
    go_wp2_with fail
    go_meet
    case rel => exact hrel'
  case rest =>
    clear HS
    obtain ⟨oc3, HS⟩ := hcut
    go_upto_region 11 with (fail)
    go_cut [] (fun wc4 => ∃ oc4, Hid (Th w o a x y ⟨FA.ks.set i ke, FA.vs.set i ve, FA.cs⟩ ⟨FX.ks ++ [ka], FX.vs ++ [va], FX.cs⟩ FY wc4 oc4))
    case first =>
      refine shL_11 a x y i w o FA _ FY HF hax hay hxy L hL hL2 hL1 hL3 ka ke va ve hka hva hke hve wc _ HS _ _ _ _ _ _ _ _ _ _ _ _ _ _ _ _ _ _ _ _ _ _ _ _ _ _ _ _ _ _ _ _ _ _ _ _ _ _ _ _ _ _ _ _ _ _ _ _ _ _ _ _ _ _ _ _ _ _ _ _ _ _ _ _ _ _ _ _ _ _ _ _ _ _ _ _ _ _ _ _ _ _ _ _ _ _ _ _ _ _ _ _ _ _ _ _ _ _ _ _ _ _ _ _ _ _ _ _ _ _ _ _ _ _ _ _ _ _ _ _ _ _ _ _ _ _ _ _ _ _ _ _ _ _ _ _ _ _ _ _ _ _ _ _ _ _ _ _ _ _ _ _ _ _ _ _ _ _ _ _ _ _ _ _ _ _ _ _ _ _ _ _ _ _ _ _ _ _ _ _ _ _ _ _ _ _ _ _ _ _ _ _ _ _ _ _ _ _ _ _ _ _ _ _ _ _ _ _ _ _ _ _ _ _ _ _ _ _ _ _ _ _ _ _ _ _ _ _ _ _ _ _ _ _ _ _ _ _ ?_
      intro _ _ _ _ _ _ _ _ _ _ _ _ _ _ _ _ _ _ _ _ _ _ _ _ w' hrel'
      go_wp2_with fail
      go_meet
      case rel => exact hrel'
    case rest =>
      clear HS
      obtain ⟨oc4, HS⟩ := hcut
      go_upto_region 12 with (fail)
      go_cut [] (fun wc4 => ∃ oc4, Hid (Th w o a x y ⟨FA.ks.set i ke, FA.vs.set i ve, FA.cs⟩ ⟨FX.ks ++ [ka], FX.vs ++ [va], FX.cs⟩ ⟨FY.ks.drop 1, FY.vs.drop 1, FY.cs⟩ wc4 oc4))
      case first =>
        refine shL_12 a x y i w o _ _ FY HF hax hay hxy (by omega) (by omega) (by omega) (by omega) wc _ HS _ _ _ _ _ _ _ _ _ _ _ _ _ _ _ _ _ _ _ _ _ _ _ _ _ _ _ _ _ _ _ _ _ _ _ _ _ _ _ _ _ _ _ _ _ _ _ _ _ _ _ _ _ _ _ _ _ _ _ _ _ _ _ _ _ _ _ _ _ _ _ _ _ _ _ _ _ _ _ _ _ _ _ _ _ _ _ _ _ _ _ _ _ _ _ _ _ _ _ _ _ _ _ _ _ _ _ _ _ _ _ _ _ _ _ _ _ _ _ _ _ _ _ _ _ _ _ _ _ _ _ _ _ _ _ _ _ _ _ _ _ _ _ _ _ _ _ _ _ _ _ _ _ _ _ _ _ _ _ _ _ _ _ _ _ _ _ _ _ _ _ _ _ _ _ _ _ _ _ _ _ _ _ _ _ _ _ _ _ _ _ _ _ _ _ _ _ _ _ _ _ _ _ _ _ _ _ _ _ _ _ _ _ _ _ _ _ _ _ _ _ _ _ _ _ _ _ _ _ _ _ _ _ _ _ _ _ _ _ _ ?_
        intro _ _ _ _ _ _ _ _ _ _ _ _ _ _ _ _ w' hrel'
        go_wp2_with fail
        go_meet
        case rel => exact hrel'
      case rest =>
        clear HS
        obtain ⟨oc5, HS⟩ := hcut
        obtain ⟨xk, xv, xc, hX⟩ := HS.out.ny
        obtain ⟨-, -, x2o⟩ := hX.cells
        obtain ⟨B1, d1, B2, d2, B3, d3, rfl, rfl, rfl, -, -, l3o⟩ := hX.row
        obtain ⟨C, hC⟩ : ∃ C, C = FY.cs.length := ⟨_, rfl⟩
        have x2 : wc.cell? ⟨y, 2, none⟩ = some (.slice B3 C d3) := by rw [hC]; exact x2o
        have l3 : C ≤ d3 := by rw [hC]; exact l3o
        clear x2o l3o
        have HX := Lib.hid hX
        have HC := Lib.hid hC
        have hlc : C ≤ 1001 := by omega
        clear hX hC
        by_cases hz : C = 0
        · subst hz
          go_wp2_with fail
          go_end0
          have e1 : FY.cs = [] := List.eq_nil_of_length_eq_zero HC.out.symm
          have h0 := HS.out
          unfold ShiftLP
          rw [e1] at h0 ⊢
          rw [List.take_nil, List.drop_nil, List.append_nil]
          exact ⟨rfl, _, h0⟩
        · have hz1 : ¬ (C : Int) = 0 := by omega
          have hz3 : 1 ≤ (C : Int) := by omega
          have hz4 : (0 : Int) < (C : Int) := by omega
          have hz6 : 0 < C := by omega
          obtain ⟨gx, rfl, hxc, -⟩ := HX.out.ccell (i := 0) (by show 0 < FY.cs.length; have := HC.out; omega)
          obtain ⟨ce, hce⟩ : ∃ ce, FY.cs[0]? = some ce := ⟨_, List.getElem?_eq_getElem (by have := HC.out; omega)⟩
          have HCE := Lib.hid hce
          clear hxc hce
          go_upto_region 14 with (fail)
          go_cut [] (fun wc5 => ∃ oc5, Hid (Th w o a x y ⟨FA.ks.set i ke, FA.vs.set i ve, FA.cs⟩ ⟨FX.ks ++ [ka], FX.vs ++ [va], FX.cs ++ [ce]⟩ ⟨FY.ks.drop 1, FY.vs.drop 1, FY.cs⟩ wc5 oc5))
          case first =>
            refine shL_14 a x y i w o _ ⟨FX.ks ++ [ka], FX.vs ++ [va], FX.cs⟩ ⟨FY.ks.drop 1, FY.vs.drop 1, FY.cs⟩ HF hax hay hxy hlxc C HC.out hlc hz ce HCE.out wc _ HS _ _ _ _ _ _ _ _ _ _ _ _ _ _ _ _ _ _ _ _ _ _ _ _ _ _ _ _ _ _ _ _ _ _ _ _ _ _ _ _ _ _ _ _ _ _ _ _ _ _ _ _ _ _ _ _ _ _ _ _ _ _ _ _ _ _ _ _ _ _ _ _ _ _ _ _ _ _ _ _ _ _ _ _ _ _ _ _ _ _ _ _ _ _ _ _ _ _ _ _ _ _ _ _ _ _ _ _ _ _ _ _ _ _ _ _ _ _ _ _ _ _ _ _ _ _ _ _ _ _ _ _ _ _ _ _ _ _ _ _ _ _ _ _ _ _ _ _ _ _ _ _ _ _ _ _ _ _ _ _ _ _ _ _ _ _ _ _ _ _ _ _ _ _ _ _ _ _ _ _ _ _ _ _ _ _ _ _ _ _ _ _ _ _ _ _ _ _ _ _ _ _ _ _ _ _ _ _ _ _ _ _ _ _ _ _ _ _ _ _ _ _ _ _ _ _ _ _ _ _ _ _ _ _ _ _ _ _ _ ?_
            intro _ _ _ _ _ _ _ _ _ _ _ _ _ _ _ w' hrel'
            go_wp2_with fail
            go_meet
            case rel => exact hrel'
          case rest =>
            clear HS HX
            obtain ⟨oc6, HS⟩ := hcut
            obtain ⟨xk, xv, xc, hX⟩ := HS.out.ny
            obtain ⟨-, -, x2o⟩ := hX.cells
            obtain ⟨B1, d1, B2, d2, B3, d3, rfl, rfl, rfl, -, -, l3o⟩ := hX.row
            have x2 : wc.cell? ⟨y, 2, none⟩ = some (.slice B3 C d3) := by rw [HC.out]; exact x2o
            have hdl := kid_delW hX (V := wc) (by show FY.cs.length ≤ _; omega) 0 (by show 0 < FY.cs.length; have := HC.out; omega) 0 1 rfl rfl (FY.cs.drop 1) rfl (Below.refl _ _)
            have HDL := Lib.hid (show Calls Try.prog 115 #[.slice B3 C d3, .int .i64 0, .int .i64 1] wc fun e w2 => ∃ v', e = .returned v' ∧ Rw w2 100 v' (csR (FY.cs.drop 1)) ∧ wc.grownBy w2 (Value.slice B3 C d3).ownBlock ∧ Nw wc (.slice B3 C d3) v' from by rw [HC.out]; exact hdl)
            have HX := Lib.hid hX
            clear hX x2o l3o hdl
            go_wp2_with (go_at_call 115; refine HDL.out.mono ?_; rintro e w2 ⟨vc', rfl, hr2, hg2, hn2⟩; obtain ⟨Ac, lc, cc, rfl⟩ := rw_slice hr2; obtain ⟨f5, f6, f7, f8⟩ := HX.out.hold (row := (Value.slice B3 FY.cs.length d3).ownBlock) (by rw [← HC.out]; exact hg2) HX.out.nek.2.2; have f9 := f8 2)
            go_end0
            rw [HC.out] at hg2 hn2
            obtain ⟨hX6, hU6⟩ := HX.out.sc (mid_plain HS.out.up.fb (Below.refl _ _) hg2 hn2) hr2
            have hfin := HS.out.stepY HF.out hay hxy hX6 hU6
            unfold ShiftLP
            have ed : FY.cs.take 1 = [ce] := by
              have h5 := HCE.out
              rw [List.take_add_one, h5]
              rfl
            rw [ed]
            exact ⟨rfl, _, hfin⟩
end Go.Proofs.Ytfhonfeopkhdeaa.BC
