/-
  The reference's list of coordinates: what Put and Drop do to it. No premise.
-/
import Derived.Test.YtfhonfeopkhdeaaBtRc
import Derived.Test.YtfhonfeopkhdeaaBtRw
namespace Go.Proofs.Ytfhonfeopkhdeaa
open Go.RowKit Go.Proofs.YtfhonfeopkhdeaaW.PrintWords

noncomputable def cp_8_code : Code := ((Try.f33.body.bind (findRg 8)).getD .skip)
set_option maxRecDepth 1000000 in
set_option maxHeartbeats 8000000 in
theorem cp_8 (r i : Nat) (S : Nat → Prop) (KL : List BC.Ky) (Vs : List Int) (k : BC.Ky) (hi : i ≤ KL.length) (hl : KL.length ≤ 100000) (wc : World) (HS : Hid (RBc wc S r KL Vs)) (HK : Hid (Fs wc S k)) {Q : Exit → Act → World → Prop} (t1 t2 t3 t4 t5 t6 t7 t9 t11 t12 t13 t14 t15 t16 t17 t18 t19 t20 t21 t22 t23 t24 t25 t26 t27 t28 t29 t30 t31 t32 t33 t34 t35 t36 t37 t38 t39 t40 t41 t42 t43 t44 t45 t46 t47 t48 t49 t50 t51 t52 t53 t54 t55 t56 t57 t58 t59 t60 t61 t62 t63 t64 t65 t66 t67 t68 t69 t70 t71 t72 t73 t74 t75 : Value) (hQ : ∀ (u34 u35 u36 u37 u38 u39 u40 u41 u42 u43 u44 u45 u46 u47 u48 u49 u50 u51 u52 u53 u54 : Value) (w' : World), (∃ S', Hid (RBc w' S' r (KL.take i ++ [k] ++ KL.drop i) Vs) ∧ Hid (Ch wc S w' S')) → Q .normal ⟨(.pointer (some ⟨r, 0, none⟩) :: t1 :: t2 :: t3 :: t4 :: t5 :: t6 :: t7 :: .int .i64 i :: t9 :: .slice k.A k.l.length k.c :: t11 :: t12 :: t13 :: t14 :: t15 :: t16 :: t17 :: t18 :: t19 :: t20 :: t21 :: t22 :: t23 :: t24 :: t25 :: t26 :: t27 :: t28 :: t29 :: t30 :: t31 :: t32 :: t33 :: u34 :: u35 :: u36 :: u37 :: u38 :: u39 :: u40 :: u41 :: u42 :: u43 :: u44 :: u45 :: u46 :: u47 :: u48 :: u49 :: u50 :: u51 :: u52 :: u53 :: u54 :: t55 :: t56 :: t57 :: t58 :: t59 :: t60 :: t61 :: t62 :: t63 :: t64 :: t65 :: t66 :: t67 :: t68 :: t69 :: t70 :: t71 :: t72 :: t73 :: t74 :: t75 :: []).toArray, []⟩ w') :
    Code.wp Try.prog cp_8_code Q ⟨(.pointer (some ⟨r, 0, none⟩) :: t1 :: t2 :: t3 :: t4 :: t5 :: t6 :: t7 :: .int .i64 i :: t9 :: .slice k.A k.l.length k.c :: t11 :: t12 :: t13 :: t14 :: t15 :: t16 :: t17 :: t18 :: t19 :: t20 :: t21 :: t22 :: t23 :: t24 :: t25 :: t26 :: t27 :: t28 :: t29 :: t30 :: t31 :: t32 :: t33 :: t34 :: t35 :: t36 :: t37 :: t38 :: t39 :: t40 :: t41 :: t42 :: t43 :: t44 :: t45 :: t46 :: t47 :: t48 :: t49 :: t50 :: t51 :: t52 :: t53 :: t54 :: t55 :: t56 :: t57 :: t58 :: t59 :: t60 :: t61 :: t62 :: t63 :: t64 :: t65 :: t66 :: t67 :: t68 :: t69 :: t70 :: t71 :: t72 :: t73 :: t74 :: t75 :: []).toArray, []⟩ wc := by
  refine wp_onN ?_
  conv => arg 2; whnf
  obtain ⟨kA, kc, vA, vc, hb, hk, hv, -, -, hf⟩ := HS.out.box
  have hkl : (BC.ksR KL).length = KL.length := List.length_map _
  have HSK := Lib.hid (fun V (hV : Below wc.heap.size wc V) => show V.cell? ⟨r, 0, none⟩ = some (.slice kA KL.length kc) from by
    rw [blk_cell ((hV.block r (blk_lt hb)).trans hb)]
    rfl)
  have HFZ := Lib.hid (fun V (hV : Below wc.heap.size wc V) => blk_frozen ((hV.block r (blk_lt hb)).trans hb) 0)
  have HRS := Lib.hid (blk_lt hb)
  obtain ⟨⟨B1, d1, hs1, hy1⟩, ⟨B2, d2, hs2, hy2⟩⟩ := row_parts (P := Try.prog) Try.underlying69 infoBC hk hkl.symm i hi
  have hlt : ((BC.ksR KL).take i).length = i := by rw [List.length_take, hkl]; omega
  have hld : ((BC.ksR KL).drop i).length = KL.length - i := by rw [List.length_drop, hkl]
  have HY1 := Lib.hid (fun V (hV : Below wc.heap.size wc V) => hy1.below hV)
  have HY2 := Lib.hid (fun V (hV : Below wc.heap.size wc V) => hy2.below hV)
  have HM1 := Lib.hid hlt.symm
  have HM3 := Lib.hid hld.symm
  have HO1 := Lib.hid (show One ((BC.ksR KL).take i) from fun u hu => BC.ksR_one _ u (List.mem_of_mem_take hu))
  have HO3 := Lib.hid (show One ((BC.ksR KL).drop i) from fun u hu => BC.ksR_one _ u (List.mem_of_mem_drop hu))
  have HO2 := Lib.hid (show One ([] ++ (BC.ksR KL).take i) from HO1.out)
  have HL1 := Lib.hid (show ([] : List Value).length + ((BC.ksR KL).take i).length ≤ 1000000 by rw [hlt]; simp; omega)
  have HL2 := Lib.hid (show ([] ++ (BC.ksR KL).take i).length + ([(Value.slice k.A k.l.length k.c)] : List Value).length ≤ 1000000 by rw [List.nil_append, hlt]; simp; omega)
  have HO4 := Lib.hid (show One ([] ++ (BC.ksR KL).take i ++ [(Value.slice k.A k.l.length k.c)]) from fun u hu => by
    rcases List.mem_append.1 hu with hu | hu
    · exact HO2.out u hu
    · rw [List.mem_singleton.1 hu]; rfl)
  have HL3 := Lib.hid (show ([] ++ (BC.ksR KL).take i ++ [(Value.slice k.A k.l.length k.c)]).length + ((BC.ksR KL).drop i).length ≤ 1000000 by rw [hld, List.nil_append, List.length_append, hlt]; simp; omega)
  have HEQ := Lib.hid (show [] ++ (BC.ksR KL).take i ++ [(Value.slice k.A k.l.length k.c)] ++ (BC.ksR KL).drop i = BC.ksR (KL.take i ++ [k] ++ KL.drop i) by unfold BC.ksR; simp [BC.kv, List.map_take, List.map_drop])
  have HKK := Lib.hid (show ∀ x ∈ KL.take i ++ [k] ++ KL.drop i, Fs wc S x from fun x hx => by
    rcases List.mem_append.1 hx with hx | hx
    · rcases List.mem_append.1 hx with hx | hx
      · exact hf x (List.mem_of_mem_take hx)
      · rw [List.mem_singleton.1 hx]; exact HK.out
    · exact hf x (List.mem_of_mem_drop hx))
  clear hf hb hk hv hkl hy1 hy2 hlt hld
  refine wp_region_Y1 (by kernel_rfl) ?_
  intro V hV
  refine wpY_take (i := 0) (v := ?_) [] rfl (by kernel_rfl) (by kernel_rfl) (by kernel_rfl) (by kernel_rfl) (fun _ _ _ h => h) (Or.inl ⟨by rfl, ?_⟩) trivial ?_
  rotate_left
  · (intro wS hSw; (try dsimp only at hSw); go_simp; (try (with_reducible rfl)))
  try simp only [Act.put, List.setIfInBounds_toArray]
  refine wpY_take (i := 2) (v := ?_) [] rfl (by kernel_rfl) (by kernel_rfl) (by kernel_rfl) (by kernel_rfl) (fun _ _ _ h => h) (Or.inl ⟨by rfl, ?_⟩) trivial ?_
  rotate_left
  · (intro wS hSw; (try dsimp only at hSw); go_simp; (try (with_reducible rfl)))
  try simp only [Act.put]
  refine wpY_take (i := 3) (v := ?_) [] rfl (by kernel_rfl) (by kernel_rfl) (by kernel_rfl) (by kernel_rfl) (fun _ _ _ h => h) (Or.inl ⟨by rfl, ?_⟩) trivial ?_
  rotate_left
  · (intro wS hSw; (try dsimp only at hSw); go_simp; (try (with_reducible rfl)))
  try simp only [Act.put]
  refine wpY_take (i := 4) (v := ?_) [] rfl (by kernel_rfl) (by kernel_rfl) (by kernel_rfl) (by kernel_rfl) (fun _ _ _ h => h) (Or.inl ⟨by rfl, ?_⟩) trivial ?_
  rotate_left
  · (intro wS hSw; (try dsimp only at hSw); go_simp; (try (with_reducible rfl)))
  try simp only [Act.put]
  refine wpY_take (i := 6) (v := ?_) [] rfl (by kernel_rfl) (by kernel_rfl) (by kernel_rfl) (by kernel_rfl) (fun _ _ _ h => h) (Or.inl ⟨by rfl, ?_⟩) trivial ?_
  rotate_left
  · (intro wS hSw; (try dsimp only at hSw); go_simp; (try (with_reducible rfl)))
  try simp only [Act.put]
  refine wpY_take (i := 9) (v := ?_) [] rfl (by kernel_rfl) (by kernel_rfl) (by kernel_rfl) (by kernel_rfl) (fun _ _ _ h => h) (Or.inl ⟨by rfl, ?_⟩) trivial ?_
  rotate_left
  · (intro wS hSw; (try dsimp only at hSw); go_simp; (try (with_reducible rfl)))
  try simp only [Act.put]
  refine wpY_take (i := 12) (v := ?_) [] rfl (by kernel_rfl) (by kernel_rfl) (by kernel_rfl) (by kernel_rfl) (fun _ _ _ h => h) (Or.inl ⟨by rfl, ?_⟩) trivial ?_
  rotate_left
  · (intro wS hSw; (try dsimp only at hSw); go_simp; (try (with_reducible rfl)))
  try simp only [Act.put]
  refine wpY_take (i := 13) (v := ?_) [] rfl (by kernel_rfl) (by kernel_rfl) (by kernel_rfl) (by kernel_rfl) (fun _ _ _ h => h) (Or.inl ⟨by rfl, ?_⟩) trivial ?_
  rotate_left
  · (intro wS hSw; (try dsimp only at hSw); go_simp; (try (with_reducible rfl)))
  try simp only [Act.put]
  refine wpY_take (i := 14) (v := ?_) [] rfl (by kernel_rfl) (by kernel_rfl) (by kernel_rfl) (by kernel_rfl) (fun _ _ _ h => h) (Or.inl ⟨by rfl, ?_⟩) trivial ?_
  rotate_left
  · (intro wS hSw; (try dsimp only at hSw); go_simp; (try (with_reducible rfl)))
  try simp only [Act.put]
  refine wpY_take (i := 16) (v := ?_) [] rfl (by kernel_rfl) (by kernel_rfl) (by kernel_rfl) (by kernel_rfl) (fun _ _ _ h => h) (Or.inl ⟨by rfl, ?_⟩) trivial ?_
  rotate_left
  · (intro wS hSw; (try dsimp only at hSw); go_simp; (try (with_reducible rfl)))
  try simp only [Act.put]
  have HG := Lib.hid (show Below wc.heap.size wc V from by rw [hV]; exact (Below.refl _ _).drew)
  clear hV
  have hS0 := HSK.out V HG.out
  refine wpY_swap ((fun W' => W'.cell? ⟨r, 0, none⟩ = some (.slice kA KL.length kc))) [21] ?_
  refine wpY_take (i := 5) (v := ?_) [[21]] rfl (by kernel_rfl) (by kernel_rfl) (by kernel_rfl) (by kernel_rfl) (fun _ _ _ h => h) (Or.inl ⟨by rfl, ?_⟩) (by assumption) ?_
  rotate_left
  · (intro wS hSw; (try dsimp only at hSw); go_simp; (try (with_reducible rfl)))
  try simp only [Act.put]
  refine wpY_take (i := 7) (v := ?_) [[21]] rfl (by kernel_rfl) (by kernel_rfl) (by kernel_rfl) (by kernel_rfl) (fun _ _ _ h => h) (Or.inl ⟨by rfl, ?_⟩) (by assumption) ?_
  rotate_left
  · (intro wS hSw; (try dsimp only at hSw); go_simp; (try (with_reducible rfl)))
  try simp only [Act.put]
  refine wpY_take (i := 15) (v := ?_) [[21]] rfl (by kernel_rfl) (by kernel_rfl) (by kernel_rfl) (by kernel_rfl) (fun _ _ _ h => h) (Or.inl ⟨by rfl, ?_⟩) (by assumption) ?_
  rotate_left
  · (intro wS hSw; (try dsimp only at hSw); go_simp; (try (with_reducible rfl)))
  try simp only [Act.put]
  refine wpY_take (i := 17) (v := ?_) [[21]] rfl (by kernel_rfl) (by kernel_rfl) (by kernel_rfl) (by kernel_rfl) (fun _ _ _ h => h) (Or.inl ⟨by rfl, ?_⟩) (by assumption) ?_
  rotate_left
  · (intro wS hSw; (try dsimp only at hSw); go_simp; (try (with_reducible rfl)))
  try simp only [Act.put]
  refine wpY_two (i := 1) (j := 10) (by kernel_rfl) rfl rfl (fun K hK => ?_) (fun K hK => ?_)
  ·
    go_simp
    have HR1 := Lib.hid (Ro.new (V := V) (wc := wc) 22 HG.out.size)
    (try have HN := Lib.hid (new_ne (V := V) H10.out))
    (try have H10 := Lib.hid (BC.blk_alloc H10.out (.cells #[] 22)))
    have HG := Lib.hid (HG.out.alloc HG.out.size (.cells #[] 22))
    refine letK ?_
    intro V hV
    rw [← hV] at HG HR1
    (try rw [← hV] at H10)
    clear hV
    have HR := HR1
    clear HR1
    refine hK.out _ _ (.inr (HSK.out _ HG.out)) ?_
    clear hK K
    try simp only [Act.put, List.setIfInBounds_toArray, List.set_cons_zero, List.set_cons_succ]
    refine wpY_two (i := 8) (j := 10) (by kernel_rfl) rfl rfl (fun K hK => ?_) (fun K hK => ?_)
    ·
      obtain ⟨Ak, lk, ck, V', hrun, -, hr2, hg2, hn2⟩ := HR.out.app (P := Try.prog) 69 69 _ _ Try.underlying69 infoBC rfl HG.out.size B1 i d1 HM1.out (HY1.out V HG.out) HO1.out (fun _ h => by cases h) HL1.out (by decide)
      refine step_run rfl (.tmp 35) (.tmp 41) 69 69 rfl _ _ (by rfl) (by rfl) _ _ hrun ?_
      clear hrun
      (try have HN2 := Lib.hid (ne_nw HN.out hn2 (blk_lt H10.out)))
      (try have H10 := Lib.hid ((hg2.block _ (blk_lt H10.out) (fun e => HN.out _ e.symm rfl)).trans H10.out))
      (try have HN := HN2)
      (try clear HN2)
      have HG := Lib.hid (below_fresh HG.out hg2 HR.out.fr)
      have HR := Lib.hid hr2
      clear hr2 hg2 hn2
      refine letK ?_
      intro V hV
      rw [← hV] at HR HG
      (try rw [← hV] at H10)
      clear hV
      refine hK.out _ _ (.inr (HSK.out _ HG.out)) ?_
      clear hK K
      try simp only [Act.put, List.setIfInBounds_toArray]
      refine wpY_one (i := 10) (by kernel_rfl) rfl (fun K hK => ?_)
      go_simp
      obtain ⟨b10, hb10⟩ : ∃ b, b = V.heap.size := ⟨_, rfl⟩
      rw [← hb10]
      have H10 := Lib.hid (show (V.alloc (.cells #[(Value.slice k.A k.l.length k.c)] 22)).heap[b10]? = some (.cells #[(Value.slice k.A k.l.length k.c)] 22 (0, 0)) from by rw [hb10]; exact BC.top_blk V _ _)
      (try have HN := Lib.hid (HR.out.ne hb10))
      (try have HR := Lib.hid (HR.out.alloc (.cells #[(Value.slice k.A k.l.length k.c)] 22)))
      have HG := Lib.hid (HG.out.alloc HG.out.size (.cells #[(Value.slice k.A k.l.length k.c)] 22))
      clear hb10
      refine letK ?_
      intro V hV
      rw [← hV] at HG H10
      (try rw [← hV] at HR)
      clear hV
      refine hK.out _ _ (.inr (HSK.out _ HG.out)) ?_
      clear hK K
      try simp only [Act.put, List.setIfInBounds_toArray, List.set_cons_zero, List.set_cons_succ]
      refine wpY_one (i := 11) (by kernel_rfl) rfl (fun K hK => ?_)
      obtain ⟨Ak, lk, ck, V', hrun, -, hr2, hg2, hn2⟩ := HR.out.app (P := Try.prog) 69 69 _ _ Try.underlying69 infoBC rfl HG.out.size (some ⟨b10, 0, none⟩) 1 1 rfl (Src.one H10.out) (fun u hu => by rw [List.mem_singleton.1 hu]; rfl) HO2.out HL2.out (by decide)
      refine step_run rfl (.tmp 42) (.tmp 44) 69 69 rfl _ _ (by rfl) (by rfl) _ _ hrun ?_
      clear hrun
      (try have HN2 := Lib.hid (ne_nw HN.out hn2 (blk_lt H10.out)))
      (try have H10 := Lib.hid ((hg2.block _ (blk_lt H10.out) (fun e => HN.out _ e.symm rfl)).trans H10.out))
      (try have HN := HN2)
      (try clear HN2)
      have HG := Lib.hid (below_fresh HG.out hg2 HR.out.fr)
      have HR := Lib.hid hr2
      clear hr2 hg2 hn2
      refine letK ?_
      intro V hV
      rw [← hV] at HR HG
      (try rw [← hV] at H10)
      clear hV
      refine hK.out _ _ (.inr (HSK.out _ HG.out)) ?_
      clear hK K
      try simp only [Act.put, List.setIfInBounds_toArray]
      refine wpY_one (i := 18) (by kernel_rfl) rfl (fun K hK => ?_)
      obtain ⟨Ak, lk, ck, V', hrun, -, hr2, hg2, hn2⟩ := HR.out.app (P := Try.prog) 69 69 _ _ Try.underlying69 infoBC rfl HG.out.size B2 (KL.length - i) d2 HM3.out (HY2.out V HG.out) HO3.out HO4.out HL3.out (by decide)
      refine step_run rfl (.tmp 45) (.tmp 51) 69 69 rfl _ _ (by rfl) (by rfl) _ _ hrun ?_
      clear hrun
      (try have HN2 := Lib.hid (ne_nw HN.out hn2 (blk_lt H10.out)))
      (try have H10 := Lib.hid ((hg2.block _ (blk_lt H10.out) (fun e => HN.out _ e.symm rfl)).trans H10.out))
      (try have HN := HN2)
      (try clear HN2)
      have HG := Lib.hid (below_fresh HG.out hg2 HR.out.fr)
      have HR := Lib.hid hr2
      clear hr2 hg2 hn2
      refine letK ?_
      intro V hV
      rw [← hV] at HR HG
      (try rw [← hV] at H10)
      clear hV
      have f30 := HFZ.out V HG.out
      have c30 := HSK.out V HG.out
      refine hK.out _ _ (.inr (HSK.out _ HG.out)) ?_
      clear hK K
      try simp only [Act.put]
      refine wpY_one (i := 19) (by kernel_rfl) rfl (fun K hK => ?_)
      go_simp
      refine hK.out _ _ (.inr (HSK.out _ HG.out)) ?_
      clear hK K
      try simp only [Act.put, List.setIfInBounds_toArray, List.set_cons_zero, List.set_cons_succ]
      refine wpY_one (i := 20) (by kernel_rfl) rfl (fun K hK => ?_)
      go_simp
      refine hK.out _ _ (.inr (HSK.out _ HG.out)) ?_
      clear hK K
      try simp only [Act.put, List.setIfInBounds_toArray, List.set_cons_zero, List.set_cons_succ]
      refine wpY_one (i := 21) (by kernel_rfl) rfl (fun K hK => ?_)
      go_simp
      refine hK.out _ _ (.inl (by decide)) ?_
      clear hK K
      try simp only [Act.put, List.setIfInBounds_toArray, List.set_cons_zero, List.set_cons_succ]
      refine wpY_done (by kernel_rfl) ?_ _
      apply hQ
      have hro := HR.out
      rw [HEQ.out] at hro
      obtain ⟨h1, h2⟩ := HS.out.setK HRS.out HG.out hro HKK.out
      exact ⟨_, Lib.hid h1, Lib.hid h2⟩
    ·
      go_simp
      obtain ⟨b10, hb10⟩ : ∃ b, b = V.heap.size := ⟨_, rfl⟩
      rw [← hb10]
      have H10 := Lib.hid (show (V.alloc (.cells #[(Value.slice k.A k.l.length k.c)] 22)).heap[b10]? = some (.cells #[(Value.slice k.A k.l.length k.c)] 22 (0, 0)) from by rw [hb10]; exact BC.top_blk V _ _)
      (try have HN := Lib.hid (HR.out.ne hb10))
      (try have HR := Lib.hid (HR.out.alloc (.cells #[(Value.slice k.A k.l.length k.c)] 22)))
      have HG := Lib.hid (HG.out.alloc HG.out.size (.cells #[(Value.slice k.A k.l.length k.c)] 22))
      clear hb10
      refine letK ?_
      intro V hV
      rw [← hV] at HG H10
      (try rw [← hV] at HR)
      clear hV
      refine hK.out _ _ (.inr (HSK.out _ HG.out)) ?_
      clear hK K
      try simp only [Act.put, List.setIfInBounds_toArray, List.set_cons_zero, List.set_cons_succ]
      refine wpY_one (i := 8) (by kernel_rfl) rfl (fun K hK => ?_)
      obtain ⟨Ak, lk, ck, V', hrun, -, hr2, hg2, hn2⟩ := HR.out.app (P := Try.prog) 69 69 _ _ Try.underlying69 infoBC rfl HG.out.size B1 i d1 HM1.out (HY1.out V HG.out) HO1.out (fun _ h => by cases h) HL1.out (by decide)
      refine step_run rfl (.tmp 35) (.tmp 41) 69 69 rfl _ _ (by rfl) (by rfl) _ _ hrun ?_
      clear hrun
      (try have HN2 := Lib.hid (ne_nw HN.out hn2 (blk_lt H10.out)))
      (try have H10 := Lib.hid ((hg2.block _ (blk_lt H10.out) (fun e => HN.out _ e.symm rfl)).trans H10.out))
      (try have HN := HN2)
      (try clear HN2)
      have HG := Lib.hid (below_fresh HG.out hg2 HR.out.fr)
      have HR := Lib.hid hr2
      clear hr2 hg2 hn2
      refine letK ?_
      intro V hV
      rw [← hV] at HR HG
      (try rw [← hV] at H10)
      clear hV
      refine hK.out _ _ (.inr (HSK.out _ HG.out)) ?_
      clear hK K
      try simp only [Act.put, List.setIfInBounds_toArray]
      refine wpY_one (i := 11) (by kernel_rfl) rfl (fun K hK => ?_)
      obtain ⟨Ak, lk, ck, V', hrun, -, hr2, hg2, hn2⟩ := HR.out.app (P := Try.prog) 69 69 _ _ Try.underlying69 infoBC rfl HG.out.size (some ⟨b10, 0, none⟩) 1 1 rfl (Src.one H10.out) (fun u hu => by rw [List.mem_singleton.1 hu]; rfl) HO2.out HL2.out (by decide)
      refine step_run rfl (.tmp 42) (.tmp 44) 69 69 rfl _ _ (by rfl) (by rfl) _ _ hrun ?_
      clear hrun
      (try have HN2 := Lib.hid (ne_nw HN.out hn2 (blk_lt H10.out)))
      (try have H10 := Lib.hid ((hg2.block _ (blk_lt H10.out) (fun e => HN.out _ e.symm rfl)).trans H10.out))
      (try have HN := HN2)
      (try clear HN2)
      have HG := Lib.hid (below_fresh HG.out hg2 HR.out.fr)
      have HR := Lib.hid hr2
      clear hr2 hg2 hn2
      refine letK ?_
      intro V hV
      rw [← hV] at HR HG
      (try rw [← hV] at H10)
      clear hV
      refine hK.out _ _ (.inr (HSK.out _ HG.out)) ?_
      clear hK K
      try simp only [Act.put]
      refine wpY_one (i := 18) (by kernel_rfl) rfl (fun K hK => ?_)
      obtain ⟨Ak, lk, ck, V', hrun, -, hr2, hg2, hn2⟩ := HR.out.app (P := Try.prog) 69 69 _ _ Try.underlying69 infoBC rfl HG.out.size B2 (KL.length - i) d2 HM3.out (HY2.out V HG.out) HO3.out HO4.out HL3.out (by decide)
      refine step_run rfl (.tmp 45) (.tmp 51) 69 69 rfl _ _ (by rfl) (by rfl) _ _ hrun ?_
      clear hrun
      (try have HN2 := Lib.hid (ne_nw HN.out hn2 (blk_lt H10.out)))
      (try have H10 := Lib.hid ((hg2.block _ (blk_lt H10.out) (fun e => HN.out _ e.symm rfl)).trans H10.out))
      (try have HN := HN2)
      (try clear HN2)
      have HG := Lib.hid (below_fresh HG.out hg2 HR.out.fr)
      have HR := Lib.hid hr2
      clear hr2 hg2 hn2
      refine letK ?_
      intro V hV
      rw [← hV] at HR HG
      (try rw [← hV] at H10)
      clear hV
      have f30 := HFZ.out V HG.out
      have c30 := HSK.out V HG.out
      refine hK.out _ _ (.inr (HSK.out _ HG.out)) ?_
      clear hK K
      try simp only [Act.put]
      refine wpY_one (i := 19) (by kernel_rfl) rfl (fun K hK => ?_)
      go_simp
      refine hK.out _ _ (.inr (HSK.out _ HG.out)) ?_
      clear hK K
      try simp only [Act.put, List.setIfInBounds_toArray, List.set_cons_zero, List.set_cons_succ]
      refine wpY_one (i := 20) (by kernel_rfl) rfl (fun K hK => ?_)
      go_simp
      refine hK.out _ _ (.inr (HSK.out _ HG.out)) ?_
      clear hK K
      try simp only [Act.put, List.setIfInBounds_toArray, List.set_cons_zero, List.set_cons_succ]
      refine wpY_one (i := 21) (by kernel_rfl) rfl (fun K hK => ?_)
      go_simp
      refine hK.out _ _ (.inl (by decide)) ?_
      clear hK K
      try simp only [Act.put, List.setIfInBounds_toArray, List.set_cons_zero, List.set_cons_succ]
      refine wpY_done (by kernel_rfl) ?_ _
      apply hQ
      have hro := HR.out
      rw [HEQ.out] at hro
      obtain ⟨h1, h2⟩ := HS.out.setK HRS.out HG.out hro HKK.out
      exact ⟨_, Lib.hid h1, Lib.hid h2⟩
  ·
    go_simp
    obtain ⟨b10, hb10⟩ : ∃ b, b = V.heap.size := ⟨_, rfl⟩
    rw [← hb10]
    have H10 := Lib.hid (show (V.alloc (.cells #[(Value.slice k.A k.l.length k.c)] 22)).heap[b10]? = some (.cells #[(Value.slice k.A k.l.length k.c)] 22 (0, 0)) from by rw [hb10]; exact BC.top_blk V _ _)
    (try have HN := Lib.hid (HR.out.ne hb10))
    (try have HR := Lib.hid (HR.out.alloc (.cells #[(Value.slice k.A k.l.length k.c)] 22)))
    have HG := Lib.hid (HG.out.alloc HG.out.size (.cells #[(Value.slice k.A k.l.length k.c)] 22))
    clear hb10
    refine letK ?_
    intro V hV
    rw [← hV] at HG H10
    (try rw [← hV] at HR)
    clear hV
    refine hK.out _ _ (.inr (HSK.out _ HG.out)) ?_
    clear hK K
    try simp only [Act.put, List.setIfInBounds_toArray, List.set_cons_zero, List.set_cons_succ]
    refine wpY_one (i := 1) (by kernel_rfl) rfl (fun K hK => ?_)
    go_simp
    have HR1 := Lib.hid (Ro.new (V := V) (wc := wc) 22 HG.out.size)
    (try have HN := Lib.hid (new_ne (V := V) H10.out))
    (try have H10 := Lib.hid (BC.blk_alloc H10.out (.cells #[] 22)))
    have HG := Lib.hid (HG.out.alloc HG.out.size (.cells #[] 22))
    refine letK ?_
    intro V hV
    rw [← hV] at HG HR1
    (try rw [← hV] at H10)
    clear hV
    have HR := HR1
    clear HR1
    refine hK.out _ _ (.inr (HSK.out _ HG.out)) ?_
    clear hK K
    try simp only [Act.put, List.setIfInBounds_toArray, List.set_cons_zero, List.set_cons_succ]
    refine wpY_one (i := 8) (by kernel_rfl) rfl (fun K hK => ?_)
    obtain ⟨Ak, lk, ck, V', hrun, -, hr2, hg2, hn2⟩ := HR.out.app (P := Try.prog) 69 69 _ _ Try.underlying69 infoBC rfl HG.out.size B1 i d1 HM1.out (HY1.out V HG.out) HO1.out (fun _ h => by cases h) HL1.out (by decide)
    refine step_run rfl (.tmp 35) (.tmp 41) 69 69 rfl _ _ (by rfl) (by rfl) _ _ hrun ?_
    clear hrun
    (try have HN2 := Lib.hid (ne_nw HN.out hn2 (blk_lt H10.out)))
    (try have H10 := Lib.hid ((hg2.block _ (blk_lt H10.out) (fun e => HN.out _ e.symm rfl)).trans H10.out))
    (try have HN := HN2)
    (try clear HN2)
    have HG := Lib.hid (below_fresh HG.out hg2 HR.out.fr)
    have HR := Lib.hid hr2
    clear hr2 hg2 hn2
    refine letK ?_
    intro V hV
    rw [← hV] at HR HG
    (try rw [← hV] at H10)
    clear hV
    refine hK.out _ _ (.inr (HSK.out _ HG.out)) ?_
    clear hK K
    try simp only [Act.put, List.setIfInBounds_toArray]
    refine wpY_one (i := 11) (by kernel_rfl) rfl (fun K hK => ?_)
    obtain ⟨Ak, lk, ck, V', hrun, -, hr2, hg2, hn2⟩ := HR.out.app (P := Try.prog) 69 69 _ _ Try.underlying69 infoBC rfl HG.out.size (some ⟨b10, 0, none⟩) 1 1 rfl (Src.one H10.out) (fun u hu => by rw [List.mem_singleton.1 hu]; rfl) HO2.out HL2.out (by decide)
    refine step_run rfl (.tmp 42) (.tmp 44) 69 69 rfl _ _ (by rfl) (by rfl) _ _ hrun ?_
    clear hrun
    (try have HN2 := Lib.hid (ne_nw HN.out hn2 (blk_lt H10.out)))
    (try have H10 := Lib.hid ((hg2.block _ (blk_lt H10.out) (fun e => HN.out _ e.symm rfl)).trans H10.out))
    (try have HN := HN2)
    (try clear HN2)
    have HG := Lib.hid (below_fresh HG.out hg2 HR.out.fr)
    have HR := Lib.hid hr2
    clear hr2 hg2 hn2
    refine letK ?_
    intro V hV
    rw [← hV] at HR HG
    (try rw [← hV] at H10)
    clear hV
    refine hK.out _ _ (.inr (HSK.out _ HG.out)) ?_
    clear hK K
    try simp only [Act.put]
    refine wpY_one (i := 18) (by kernel_rfl) rfl (fun K hK => ?_)
    obtain ⟨Ak, lk, ck, V', hrun, -, hr2, hg2, hn2⟩ := HR.out.app (P := Try.prog) 69 69 _ _ Try.underlying69 infoBC rfl HG.out.size B2 (KL.length - i) d2 HM3.out (HY2.out V HG.out) HO3.out HO4.out HL3.out (by decide)
    refine step_run rfl (.tmp 45) (.tmp 51) 69 69 rfl _ _ (by rfl) (by rfl) _ _ hrun ?_
    clear hrun
    (try have HN2 := Lib.hid (ne_nw HN.out hn2 (blk_lt H10.out)))
    (try have H10 := Lib.hid ((hg2.block _ (blk_lt H10.out) (fun e => HN.out _ e.symm rfl)).trans H10.out))
    (try have HN := HN2)
    (try clear HN2)
    have HG := Lib.hid (below_fresh HG.out hg2 HR.out.fr)
    have HR := Lib.hid hr2
    clear hr2 hg2 hn2
    refine letK ?_
    intro V hV
    rw [← hV] at HR HG
    (try rw [← hV] at H10)
    clear hV
    have f30 := HFZ.out V HG.out
    have c30 := HSK.out V HG.out
    refine hK.out _ _ (.inr (HSK.out _ HG.out)) ?_
    clear hK K
    try simp only [Act.put]
    refine wpY_one (i := 19) (by kernel_rfl) rfl (fun K hK => ?_)
    go_simp
    refine hK.out _ _ (.inr (HSK.out _ HG.out)) ?_
    clear hK K
    try simp only [Act.put, List.setIfInBounds_toArray, List.set_cons_zero, List.set_cons_succ]
    refine wpY_one (i := 20) (by kernel_rfl) rfl (fun K hK => ?_)
    go_simp
    refine hK.out _ _ (.inr (HSK.out _ HG.out)) ?_
    clear hK K
    try simp only [Act.put, List.setIfInBounds_toArray, List.set_cons_zero, List.set_cons_succ]
    refine wpY_one (i := 21) (by kernel_rfl) rfl (fun K hK => ?_)
    go_simp
    refine hK.out _ _ (.inl (by decide)) ?_
    clear hK K
    try simp only [Act.put, List.setIfInBounds_toArray, List.set_cons_zero, List.set_cons_succ]
    refine wpY_done (by kernel_rfl) ?_ _
    apply hQ
    have hro := HR.out
    rw [HEQ.out] at hro
    obtain ⟨h1, h2⟩ := HS.out.setK HRS.out HG.out hro HKK.out
    exact ⟨_, Lib.hid h1, Lib.hid h2⟩
noncomputable def cp_9_code : Code := ((Try.f33.body.bind (findRg 9)).getD .skip)
set_option maxRecDepth 1000000 in
set_option maxHeartbeats 8000000 in
theorem cp_9 (r i : Nat) (S : Nat → Prop) (KL : List BC.Ky) (Vs : List Int) (k : Int) (hi : i ≤ Vs.length) (hl : Vs.length ≤ 100000) (wc : World) (HS : Hid (RBc wc S r KL Vs)) {Q : Exit → Act → World → Prop} (t1 t3 t4 t5 t6 t7 t9 t10 t11 t12 t13 t14 t15 t16 t17 t18 t19 t20 t21 t22 t23 t24 t25 t26 t27 t28 t29 t30 t31 t32 t33 t34 t35 t36 t37 t38 t39 t40 t41 t42 t43 t44 t45 t46 t47 t48 t49 t50 t51 t52 t53 t54 t55 t56 t57 t58 t59 t60 t61 t62 t63 t64 t65 t66 t67 t68 t69 t70 t71 t72 t73 t74 t75 : Value) (hQ : ∀ (u55 u56 u57 u58 u59 u60 u61 u62 u63 u64 u65 u66 u67 u68 u69 u70 u71 u72 u73 u74 u75 : Value) (w' : World), (∃ S', Hid (RBc w' S' r KL (Vs.take i ++ [k] ++ Vs.drop i)) ∧ Hid (Ch wc S w' S')) → Q .normal ⟨(.pointer (some ⟨r, 0, none⟩) :: t1 :: .int .u64 k :: t3 :: t4 :: t5 :: t6 :: t7 :: .int .i64 i :: t9 :: t10 :: t11 :: t12 :: t13 :: t14 :: t15 :: t16 :: t17 :: t18 :: t19 :: t20 :: t21 :: t22 :: t23 :: t24 :: t25 :: t26 :: t27 :: t28 :: t29 :: t30 :: t31 :: t32 :: t33 :: t34 :: t35 :: t36 :: t37 :: t38 :: t39 :: t40 :: t41 :: t42 :: t43 :: t44 :: t45 :: t46 :: t47 :: t48 :: t49 :: t50 :: t51 :: t52 :: t53 :: t54 :: u55 :: u56 :: u57 :: u58 :: u59 :: u60 :: u61 :: u62 :: u63 :: u64 :: u65 :: u66 :: u67 :: u68 :: u69 :: u70 :: u71 :: u72 :: u73 :: u74 :: u75 :: []).toArray, []⟩ w') :
    Code.wp Try.prog cp_9_code Q ⟨(.pointer (some ⟨r, 0, none⟩) :: t1 :: .int .u64 k :: t3 :: t4 :: t5 :: t6 :: t7 :: .int .i64 i :: t9 :: t10 :: t11 :: t12 :: t13 :: t14 :: t15 :: t16 :: t17 :: t18 :: t19 :: t20 :: t21 :: t22 :: t23 :: t24 :: t25 :: t26 :: t27 :: t28 :: t29 :: t30 :: t31 :: t32 :: t33 :: t34 :: t35 :: t36 :: t37 :: t38 :: t39 :: t40 :: t41 :: t42 :: t43 :: t44 :: t45 :: t46 :: t47 :: t48 :: t49 :: t50 :: t51 :: t52 :: t53 :: t54 :: t55 :: t56 :: t57 :: t58 :: t59 :: t60 :: t61 :: t62 :: t63 :: t64 :: t65 :: t66 :: t67 :: t68 :: t69 :: t70 :: t71 :: t72 :: t73 :: t74 :: t75 :: []).toArray, []⟩ wc := by
  refine wp_onN ?_
  conv => arg 2; whnf
  obtain ⟨kA, kc, vA, vc, hb, hk, hv, -, -, hf⟩ := HS.out.box
  have hkl : (BC.vsR Vs).length = Vs.length := List.length_map _
  have HSK := Lib.hid (fun V (hV : Below wc.heap.size wc V) => show V.cell? ⟨r, 1, none⟩ = some (.slice vA Vs.length vc) from by
    rw [blk_cell ((hV.block r (blk_lt hb)).trans hb)]
    rfl)
  have HFZ := Lib.hid (fun V (hV : Below wc.heap.size wc V) => blk_frozen ((hV.block r (blk_lt hb)).trans hb) 1)
  have HRS := Lib.hid (blk_lt hb)
  obtain ⟨⟨B1, d1, hs1, hy1⟩, ⟨B2, d2, hs2, hy2⟩⟩ := row_parts (P := Try.prog) Try.underlying51 infoBU hv hkl.symm i hi
  have hlt : ((BC.vsR Vs).take i).length = i := by rw [List.length_take, hkl]; omega
  have hld : ((BC.vsR Vs).drop i).length = Vs.length - i := by rw [List.length_drop, hkl]
  have HY1 := Lib.hid (fun V (hV : Below wc.heap.size wc V) => hy1.below hV)
  have HY2 := Lib.hid (fun V (hV : Below wc.heap.size wc V) => hy2.below hV)
  have HM1 := Lib.hid hlt.symm
  have HM3 := Lib.hid hld.symm
  have HO1 := Lib.hid (show One ((BC.vsR Vs).take i) from fun u hu => BC.vsR_one _ u (List.mem_of_mem_take hu))
  have HO3 := Lib.hid (show One ((BC.vsR Vs).drop i) from fun u hu => BC.vsR_one _ u (List.mem_of_mem_drop hu))
  have HO2 := Lib.hid (show One ([] ++ (BC.vsR Vs).take i) from HO1.out)
  have HL1 := Lib.hid (show ([] : List Value).length + ((BC.vsR Vs).take i).length ≤ 1000000 by rw [hlt]; simp; omega)
  have HL2 := Lib.hid (show ([] ++ (BC.vsR Vs).take i).length + ([(Value.int .u64 k)] : List Value).length ≤ 1000000 by rw [List.nil_append, hlt]; simp; omega)
  have HO4 := Lib.hid (show One ([] ++ (BC.vsR Vs).take i ++ [(Value.int .u64 k)]) from fun u hu => by
    rcases List.mem_append.1 hu with hu | hu
    · exact HO2.out u hu
    · rw [List.mem_singleton.1 hu]; rfl)
  have HL3 := Lib.hid (show ([] ++ (BC.vsR Vs).take i ++ [(Value.int .u64 k)]).length + ((BC.vsR Vs).drop i).length ≤ 1000000 by rw [hld, List.nil_append, List.length_append, hlt]; simp; omega)
  have HEQ := Lib.hid (show [] ++ (BC.vsR Vs).take i ++ [(Value.int .u64 k)] ++ (BC.vsR Vs).drop i = BC.vsR (Vs.take i ++ [k] ++ Vs.drop i) by unfold BC.vsR; simp [List.map_take, List.map_drop])
  clear hf hb hk hv hkl hy1 hy2 hlt hld
  refine wp_region_Y1 (by kernel_rfl) ?_
  intro V hV
  refine wpY_take (i := 0) (v := ?_) [] rfl (by kernel_rfl) (by kernel_rfl) (by kernel_rfl) (by kernel_rfl) (fun _ _ _ h => h) (Or.inl ⟨by rfl, ?_⟩) trivial ?_
  rotate_left
  · (intro wS hSw; (try dsimp only at hSw); go_simp; (try (with_reducible rfl)))
  try simp only [Act.put, List.setIfInBounds_toArray]
  refine wpY_take (i := 2) (v := ?_) [] rfl (by kernel_rfl) (by kernel_rfl) (by kernel_rfl) (by kernel_rfl) (fun _ _ _ h => h) (Or.inl ⟨by rfl, ?_⟩) trivial ?_
  rotate_left
  · (intro wS hSw; (try dsimp only at hSw); go_simp; (try (with_reducible rfl)))
  try simp only [Act.put]
  refine wpY_take (i := 3) (v := ?_) [] rfl (by kernel_rfl) (by kernel_rfl) (by kernel_rfl) (by kernel_rfl) (fun _ _ _ h => h) (Or.inl ⟨by rfl, ?_⟩) trivial ?_
  rotate_left
  · (intro wS hSw; (try dsimp only at hSw); go_simp; (try (with_reducible rfl)))
  try simp only [Act.put]
  refine wpY_take (i := 4) (v := ?_) [] rfl (by kernel_rfl) (by kernel_rfl) (by kernel_rfl) (by kernel_rfl) (fun _ _ _ h => h) (Or.inl ⟨by rfl, ?_⟩) trivial ?_
  rotate_left
  · (intro wS hSw; (try dsimp only at hSw); go_simp; (try (with_reducible rfl)))
  try simp only [Act.put]
  refine wpY_take (i := 6) (v := ?_) [] rfl (by kernel_rfl) (by kernel_rfl) (by kernel_rfl) (by kernel_rfl) (fun _ _ _ h => h) (Or.inl ⟨by rfl, ?_⟩) trivial ?_
  rotate_left
  · (intro wS hSw; (try dsimp only at hSw); go_simp; (try (with_reducible rfl)))
  try simp only [Act.put]
  refine wpY_take (i := 9) (v := ?_) [] rfl (by kernel_rfl) (by kernel_rfl) (by kernel_rfl) (by kernel_rfl) (fun _ _ _ h => h) (Or.inl ⟨by rfl, ?_⟩) trivial ?_
  rotate_left
  · (intro wS hSw; (try dsimp only at hSw); go_simp; (try (with_reducible rfl)))
  try simp only [Act.put]
  refine wpY_take (i := 12) (v := ?_) [] rfl (by kernel_rfl) (by kernel_rfl) (by kernel_rfl) (by kernel_rfl) (fun _ _ _ h => h) (Or.inl ⟨by rfl, ?_⟩) trivial ?_
  rotate_left
  · (intro wS hSw; (try dsimp only at hSw); go_simp; (try (with_reducible rfl)))
  try simp only [Act.put]
  refine wpY_take (i := 13) (v := ?_) [] rfl (by kernel_rfl) (by kernel_rfl) (by kernel_rfl) (by kernel_rfl) (fun _ _ _ h => h) (Or.inl ⟨by rfl, ?_⟩) trivial ?_
  rotate_left
  · (intro wS hSw; (try dsimp only at hSw); go_simp; (try (with_reducible rfl)))
  try simp only [Act.put]
  refine wpY_take (i := 14) (v := ?_) [] rfl (by kernel_rfl) (by kernel_rfl) (by kernel_rfl) (by kernel_rfl) (fun _ _ _ h => h) (Or.inl ⟨by rfl, ?_⟩) trivial ?_
  rotate_left
  · (intro wS hSw; (try dsimp only at hSw); go_simp; (try (with_reducible rfl)))
  try simp only [Act.put]
  refine wpY_take (i := 16) (v := ?_) [] rfl (by kernel_rfl) (by kernel_rfl) (by kernel_rfl) (by kernel_rfl) (fun _ _ _ h => h) (Or.inl ⟨by rfl, ?_⟩) trivial ?_
  rotate_left
  · (intro wS hSw; (try dsimp only at hSw); go_simp; (try (with_reducible rfl)))
  try simp only [Act.put]
  have HG := Lib.hid (show Below wc.heap.size wc V from by rw [hV]; exact (Below.refl _ _).drew)
  clear hV
  have hS0 := HSK.out V HG.out
  refine wpY_swap ((fun W' => W'.cell? ⟨r, 1, none⟩ = some (.slice vA Vs.length vc))) [21] ?_
  refine wpY_take (i := 5) (v := ?_) [[21]] rfl (by kernel_rfl) (by kernel_rfl) (by kernel_rfl) (by kernel_rfl) (fun _ _ _ h => h) (Or.inl ⟨by rfl, ?_⟩) (by assumption) ?_
  rotate_left
  · (intro wS hSw; (try dsimp only at hSw); go_simp; (try (with_reducible rfl)))
  try simp only [Act.put]
  refine wpY_take (i := 7) (v := ?_) [[21]] rfl (by kernel_rfl) (by kernel_rfl) (by kernel_rfl) (by kernel_rfl) (fun _ _ _ h => h) (Or.inl ⟨by rfl, ?_⟩) (by assumption) ?_
  rotate_left
  · (intro wS hSw; (try dsimp only at hSw); go_simp; (try (with_reducible rfl)))
  try simp only [Act.put]
  refine wpY_take (i := 15) (v := ?_) [[21]] rfl (by kernel_rfl) (by kernel_rfl) (by kernel_rfl) (by kernel_rfl) (fun _ _ _ h => h) (Or.inl ⟨by rfl, ?_⟩) (by assumption) ?_
  rotate_left
  · (intro wS hSw; (try dsimp only at hSw); go_simp; (try (with_reducible rfl)))
  try simp only [Act.put]
  refine wpY_take (i := 17) (v := ?_) [[21]] rfl (by kernel_rfl) (by kernel_rfl) (by kernel_rfl) (by kernel_rfl) (fun _ _ _ h => h) (Or.inl ⟨by rfl, ?_⟩) (by assumption) ?_
  rotate_left
  · (intro wS hSw; (try dsimp only at hSw); go_simp; (try (with_reducible rfl)))
  try simp only [Act.put]
  refine wpY_two (i := 1) (j := 10) (by kernel_rfl) rfl rfl (fun K hK => ?_) (fun K hK => ?_)
  ·
    go_simp
    have HR1 := Lib.hid (Ro.new (V := V) (wc := wc) 38 HG.out.size)
    (try have HN := Lib.hid (new_ne (V := V) H10.out))
    (try have H10 := Lib.hid (BC.blk_alloc H10.out (.cells #[] 38)))
    have HG := Lib.hid (HG.out.alloc HG.out.size (.cells #[] 38))
    refine letK ?_
    intro V hV
    rw [← hV] at HG HR1
    (try rw [← hV] at H10)
    clear hV
    have HR := HR1
    clear HR1
    refine hK.out _ _ (.inr (HSK.out _ HG.out)) ?_
    clear hK K
    try simp only [Act.put, List.setIfInBounds_toArray, List.set_cons_zero, List.set_cons_succ]
    refine wpY_two (i := 8) (j := 10) (by kernel_rfl) rfl rfl (fun K hK => ?_) (fun K hK => ?_)
    ·
      obtain ⟨Ak, lk, ck, V', hrun, -, hr2, hg2, hn2⟩ := HR.out.app (P := Try.prog) 51 51 _ _ Try.underlying51 infoBU rfl HG.out.size B1 i d1 HM1.out (HY1.out V HG.out) HO1.out (fun _ h => by cases h) HL1.out (by decide)
      refine step_run rfl (.tmp 56) (.tmp 62) 51 51 rfl _ _ (by rfl) (by rfl) _ _ hrun ?_
      clear hrun
      (try have HN2 := Lib.hid (ne_nw HN.out hn2 (blk_lt H10.out)))
      (try have H10 := Lib.hid ((hg2.block _ (blk_lt H10.out) (fun e => HN.out _ e.symm rfl)).trans H10.out))
      (try have HN := HN2)
      (try clear HN2)
      have HG := Lib.hid (below_fresh HG.out hg2 HR.out.fr)
      have HR := Lib.hid hr2
      clear hr2 hg2 hn2
      refine letK ?_
      intro V hV
      rw [← hV] at HR HG
      (try rw [← hV] at H10)
      clear hV
      refine hK.out _ _ (.inr (HSK.out _ HG.out)) ?_
      clear hK K
      try simp only [Act.put, List.setIfInBounds_toArray]
      refine wpY_one (i := 10) (by kernel_rfl) rfl (fun K hK => ?_)
      go_simp
      obtain ⟨b10, hb10⟩ : ∃ b, b = V.heap.size := ⟨_, rfl⟩
      rw [← hb10]
      have H10 := Lib.hid (show (V.alloc (.cells #[(Value.int .u64 k)] 38)).heap[b10]? = some (.cells #[(Value.int .u64 k)] 38 (0, 0)) from by rw [hb10]; exact BC.top_blk V _ _)
      (try have HN := Lib.hid (HR.out.ne hb10))
      (try have HR := Lib.hid (HR.out.alloc (.cells #[(Value.int .u64 k)] 38)))
      have HG := Lib.hid (HG.out.alloc HG.out.size (.cells #[(Value.int .u64 k)] 38))
      clear hb10
      refine letK ?_
      intro V hV
      rw [← hV] at HG H10
      (try rw [← hV] at HR)
      clear hV
      refine hK.out _ _ (.inr (HSK.out _ HG.out)) ?_
      clear hK K
      try simp only [Act.put, List.setIfInBounds_toArray, List.set_cons_zero, List.set_cons_succ]
      refine wpY_one (i := 11) (by kernel_rfl) rfl (fun K hK => ?_)
      obtain ⟨Ak, lk, ck, V', hrun, -, hr2, hg2, hn2⟩ := HR.out.app (P := Try.prog) 51 51 _ _ Try.underlying51 infoBU rfl HG.out.size (some ⟨b10, 0, none⟩) 1 1 rfl (Src.one H10.out) (fun u hu => by rw [List.mem_singleton.1 hu]; rfl) HO2.out HL2.out (by decide)
      refine step_run rfl (.tmp 63) (.tmp 65) 51 51 rfl _ _ (by rfl) (by rfl) _ _ hrun ?_
      clear hrun
      (try have HN2 := Lib.hid (ne_nw HN.out hn2 (blk_lt H10.out)))
      (try have H10 := Lib.hid ((hg2.block _ (blk_lt H10.out) (fun e => HN.out _ e.symm rfl)).trans H10.out))
      (try have HN := HN2)
      (try clear HN2)
      have HG := Lib.hid (below_fresh HG.out hg2 HR.out.fr)
      have HR := Lib.hid hr2
      clear hr2 hg2 hn2
      refine letK ?_
      intro V hV
      rw [← hV] at HR HG
      (try rw [← hV] at H10)
      clear hV
      refine hK.out _ _ (.inr (HSK.out _ HG.out)) ?_
      clear hK K
      try simp only [Act.put, List.setIfInBounds_toArray]
      refine wpY_one (i := 18) (by kernel_rfl) rfl (fun K hK => ?_)
      obtain ⟨Ak, lk, ck, V', hrun, -, hr2, hg2, hn2⟩ := HR.out.app (P := Try.prog) 51 51 _ _ Try.underlying51 infoBU rfl HG.out.size B2 (Vs.length - i) d2 HM3.out (HY2.out V HG.out) HO3.out HO4.out HL3.out (by decide)
      refine step_run rfl (.tmp 66) (.tmp 72) 51 51 rfl _ _ (by rfl) (by rfl) _ _ hrun ?_
      clear hrun
      (try have HN2 := Lib.hid (ne_nw HN.out hn2 (blk_lt H10.out)))
      (try have H10 := Lib.hid ((hg2.block _ (blk_lt H10.out) (fun e => HN.out _ e.symm rfl)).trans H10.out))
      (try have HN := HN2)
      (try clear HN2)
      have HG := Lib.hid (below_fresh HG.out hg2 HR.out.fr)
      have HR := Lib.hid hr2
      clear hr2 hg2 hn2
      refine letK ?_
      intro V hV
      rw [← hV] at HR HG
      (try rw [← hV] at H10)
      clear hV
      have f30 := HFZ.out V HG.out
      have c30 := HSK.out V HG.out
      refine hK.out _ _ (.inr (HSK.out _ HG.out)) ?_
      clear hK K
      try simp only [Act.put]
      refine wpY_one (i := 19) (by kernel_rfl) rfl (fun K hK => ?_)
      go_simp
      refine hK.out _ _ (.inr (HSK.out _ HG.out)) ?_
      clear hK K
      try simp only [Act.put, List.setIfInBounds_toArray, List.set_cons_zero, List.set_cons_succ]
      refine wpY_one (i := 20) (by kernel_rfl) rfl (fun K hK => ?_)
      go_simp
      refine hK.out _ _ (.inr (HSK.out _ HG.out)) ?_
      clear hK K
      try simp only [Act.put, List.setIfInBounds_toArray, List.set_cons_zero, List.set_cons_succ]
      refine wpY_one (i := 21) (by kernel_rfl) rfl (fun K hK => ?_)
      go_simp
      refine hK.out _ _ (.inl (by decide)) ?_
      clear hK K
      try simp only [Act.put, List.setIfInBounds_toArray, List.set_cons_zero, List.set_cons_succ]
      refine wpY_done (by kernel_rfl) ?_ _
      apply hQ
      have hro := HR.out
      rw [HEQ.out] at hro
      obtain ⟨h1, h2⟩ := HS.out.setV HRS.out HG.out hro
      exact ⟨_, Lib.hid h1, Lib.hid h2⟩
    ·
      go_simp
      obtain ⟨b10, hb10⟩ : ∃ b, b = V.heap.size := ⟨_, rfl⟩
      rw [← hb10]
      have H10 := Lib.hid (show (V.alloc (.cells #[(Value.int .u64 k)] 38)).heap[b10]? = some (.cells #[(Value.int .u64 k)] 38 (0, 0)) from by rw [hb10]; exact BC.top_blk V _ _)
      (try have HN := Lib.hid (HR.out.ne hb10))
      (try have HR := Lib.hid (HR.out.alloc (.cells #[(Value.int .u64 k)] 38)))
      have HG := Lib.hid (HG.out.alloc HG.out.size (.cells #[(Value.int .u64 k)] 38))
      clear hb10
      refine letK ?_
      intro V hV
      rw [← hV] at HG H10
      (try rw [← hV] at HR)
      clear hV
      refine hK.out _ _ (.inr (HSK.out _ HG.out)) ?_
      clear hK K
      try simp only [Act.put, List.setIfInBounds_toArray, List.set_cons_zero, List.set_cons_succ]
      refine wpY_one (i := 8) (by kernel_rfl) rfl (fun K hK => ?_)
      obtain ⟨Ak, lk, ck, V', hrun, -, hr2, hg2, hn2⟩ := HR.out.app (P := Try.prog) 51 51 _ _ Try.underlying51 infoBU rfl HG.out.size B1 i d1 HM1.out (HY1.out V HG.out) HO1.out (fun _ h => by cases h) HL1.out (by decide)
      refine step_run rfl (.tmp 56) (.tmp 62) 51 51 rfl _ _ (by rfl) (by rfl) _ _ hrun ?_
      clear hrun
      (try have HN2 := Lib.hid (ne_nw HN.out hn2 (blk_lt H10.out)))
      (try have H10 := Lib.hid ((hg2.block _ (blk_lt H10.out) (fun e => HN.out _ e.symm rfl)).trans H10.out))
      (try have HN := HN2)
      (try clear HN2)
      have HG := Lib.hid (below_fresh HG.out hg2 HR.out.fr)
      have HR := Lib.hid hr2
      clear hr2 hg2 hn2
      refine letK ?_
      intro V hV
      rw [← hV] at HR HG
      (try rw [← hV] at H10)
      clear hV
      refine hK.out _ _ (.inr (HSK.out _ HG.out)) ?_
      clear hK K
      try simp only [Act.put, List.setIfInBounds_toArray]
      refine wpY_one (i := 11) (by kernel_rfl) rfl (fun K hK => ?_)
      obtain ⟨Ak, lk, ck, V', hrun, -, hr2, hg2, hn2⟩ := HR.out.app (P := Try.prog) 51 51 _ _ Try.underlying51 infoBU rfl HG.out.size (some ⟨b10, 0, none⟩) 1 1 rfl (Src.one H10.out) (fun u hu => by rw [List.mem_singleton.1 hu]; rfl) HO2.out HL2.out (by decide)
      refine step_run rfl (.tmp 63) (.tmp 65) 51 51 rfl _ _ (by rfl) (by rfl) _ _ hrun ?_
      clear hrun
      (try have HN2 := Lib.hid (ne_nw HN.out hn2 (blk_lt H10.out)))
      (try have H10 := Lib.hid ((hg2.block _ (blk_lt H10.out) (fun e => HN.out _ e.symm rfl)).trans H10.out))
      (try have HN := HN2)
      (try clear HN2)
      have HG := Lib.hid (below_fresh HG.out hg2 HR.out.fr)
      have HR := Lib.hid hr2
      clear hr2 hg2 hn2
      refine letK ?_
      intro V hV
      rw [← hV] at HR HG
      (try rw [← hV] at H10)
      clear hV
      refine hK.out _ _ (.inr (HSK.out _ HG.out)) ?_
      clear hK K
      try simp only [Act.put]
      refine wpY_one (i := 18) (by kernel_rfl) rfl (fun K hK => ?_)
      obtain ⟨Ak, lk, ck, V', hrun, -, hr2, hg2, hn2⟩ := HR.out.app (P := Try.prog) 51 51 _ _ Try.underlying51 infoBU rfl HG.out.size B2 (Vs.length - i) d2 HM3.out (HY2.out V HG.out) HO3.out HO4.out HL3.out (by decide)
      refine step_run rfl (.tmp 66) (.tmp 72) 51 51 rfl _ _ (by rfl) (by rfl) _ _ hrun ?_
      clear hrun
      (try have HN2 := Lib.hid (ne_nw HN.out hn2 (blk_lt H10.out)))
      (try have H10 := Lib.hid ((hg2.block _ (blk_lt H10.out) (fun e => HN.out _ e.symm rfl)).trans H10.out))
      (try have HN := HN2)
      (try clear HN2)
      have HG := Lib.hid (below_fresh HG.out hg2 HR.out.fr)
      have HR := Lib.hid hr2
      clear hr2 hg2 hn2
      refine letK ?_
      intro V hV
      rw [← hV] at HR HG
      (try rw [← hV] at H10)
      clear hV
      have f30 := HFZ.out V HG.out
      have c30 := HSK.out V HG.out
      refine hK.out _ _ (.inr (HSK.out _ HG.out)) ?_
      clear hK K
      try simp only [Act.put]
      refine wpY_one (i := 19) (by kernel_rfl) rfl (fun K hK => ?_)
      go_simp
      refine hK.out _ _ (.inr (HSK.out _ HG.out)) ?_
      clear hK K
      try simp only [Act.put, List.setIfInBounds_toArray, List.set_cons_zero, List.set_cons_succ]
      refine wpY_one (i := 20) (by kernel_rfl) rfl (fun K hK => ?_)
      go_simp
      refine hK.out _ _ (.inr (HSK.out _ HG.out)) ?_
      clear hK K
      try simp only [Act.put, List.setIfInBounds_toArray, List.set_cons_zero, List.set_cons_succ]
      refine wpY_one (i := 21) (by kernel_rfl) rfl (fun K hK => ?_)
      go_simp
      refine hK.out _ _ (.inl (by decide)) ?_
      clear hK K
      try simp only [Act.put, List.setIfInBounds_toArray, List.set_cons_zero, List.set_cons_succ]
      refine wpY_done (by kernel_rfl) ?_ _
      apply hQ
      have hro := HR.out
      rw [HEQ.out] at hro
      obtain ⟨h1, h2⟩ := HS.out.setV HRS.out HG.out hro
      exact ⟨_, Lib.hid h1, Lib.hid h2⟩
  ·
    go_simp
    obtain ⟨b10, hb10⟩ : ∃ b, b = V.heap.size := ⟨_, rfl⟩
    rw [← hb10]
    have H10 := Lib.hid (show (V.alloc (.cells #[(Value.int .u64 k)] 38)).heap[b10]? = some (.cells #[(Value.int .u64 k)] 38 (0, 0)) from by rw [hb10]; exact BC.top_blk V _ _)
    (try have HN := Lib.hid (HR.out.ne hb10))
    (try have HR := Lib.hid (HR.out.alloc (.cells #[(Value.int .u64 k)] 38)))
    have HG := Lib.hid (HG.out.alloc HG.out.size (.cells #[(Value.int .u64 k)] 38))
    clear hb10
    refine letK ?_
    intro V hV
    rw [← hV] at HG H10
    (try rw [← hV] at HR)
    clear hV
    refine hK.out _ _ (.inr (HSK.out _ HG.out)) ?_
    clear hK K
    try simp only [Act.put, List.setIfInBounds_toArray, List.set_cons_zero, List.set_cons_succ]
    refine wpY_one (i := 1) (by kernel_rfl) rfl (fun K hK => ?_)
    go_simp
    have HR1 := Lib.hid (Ro.new (V := V) (wc := wc) 38 HG.out.size)
    (try have HN := Lib.hid (new_ne (V := V) H10.out))
    (try have H10 := Lib.hid (BC.blk_alloc H10.out (.cells #[] 38)))
    have HG := Lib.hid (HG.out.alloc HG.out.size (.cells #[] 38))
    refine letK ?_
    intro V hV
    rw [← hV] at HG HR1
    (try rw [← hV] at H10)
    clear hV
    have HR := HR1
    clear HR1
    refine hK.out _ _ (.inr (HSK.out _ HG.out)) ?_
    clear hK K
    try simp only [Act.put, List.setIfInBounds_toArray, List.set_cons_zero, List.set_cons_succ]
    refine wpY_one (i := 8) (by kernel_rfl) rfl (fun K hK => ?_)
    obtain ⟨Ak, lk, ck, V', hrun, -, hr2, hg2, hn2⟩ := HR.out.app (P := Try.prog) 51 51 _ _ Try.underlying51 infoBU rfl HG.out.size B1 i d1 HM1.out (HY1.out V HG.out) HO1.out (fun _ h => by cases h) HL1.out (by decide)
    refine step_run rfl (.tmp 56) (.tmp 62) 51 51 rfl _ _ (by rfl) (by rfl) _ _ hrun ?_
    clear hrun
    (try have HN2 := Lib.hid (ne_nw HN.out hn2 (blk_lt H10.out)))
    (try have H10 := Lib.hid ((hg2.block _ (blk_lt H10.out) (fun e => HN.out _ e.symm rfl)).trans H10.out))
    (try have HN := HN2)
    (try clear HN2)
    have HG := Lib.hid (below_fresh HG.out hg2 HR.out.fr)
    have HR := Lib.hid hr2
    clear hr2 hg2 hn2
    refine letK ?_
    intro V hV
    rw [← hV] at HR HG
    (try rw [← hV] at H10)
    clear hV
    refine hK.out _ _ (.inr (HSK.out _ HG.out)) ?_
    clear hK K
    try simp only [Act.put, List.setIfInBounds_toArray]
    refine wpY_one (i := 11) (by kernel_rfl) rfl (fun K hK => ?_)
    obtain ⟨Ak, lk, ck, V', hrun, -, hr2, hg2, hn2⟩ := HR.out.app (P := Try.prog) 51 51 _ _ Try.underlying51 infoBU rfl HG.out.size (some ⟨b10, 0, none⟩) 1 1 rfl (Src.one H10.out) (fun u hu => by rw [List.mem_singleton.1 hu]; rfl) HO2.out HL2.out (by decide)
    refine step_run rfl (.tmp 63) (.tmp 65) 51 51 rfl _ _ (by rfl) (by rfl) _ _ hrun ?_
    clear hrun
    (try have HN2 := Lib.hid (ne_nw HN.out hn2 (blk_lt H10.out)))
    (try have H10 := Lib.hid ((hg2.block _ (blk_lt H10.out) (fun e => HN.out _ e.symm rfl)).trans H10.out))
    (try have HN := HN2)
    (try clear HN2)
    have HG := Lib.hid (below_fresh HG.out hg2 HR.out.fr)
    have HR := Lib.hid hr2
    clear hr2 hg2 hn2
    refine letK ?_
    intro V hV
    rw [← hV] at HR HG
    (try rw [← hV] at H10)
    clear hV
    refine hK.out _ _ (.inr (HSK.out _ HG.out)) ?_
    clear hK K
    try simp only [Act.put]
    refine wpY_one (i := 18) (by kernel_rfl) rfl (fun K hK => ?_)
    obtain ⟨Ak, lk, ck, V', hrun, -, hr2, hg2, hn2⟩ := HR.out.app (P := Try.prog) 51 51 _ _ Try.underlying51 infoBU rfl HG.out.size B2 (Vs.length - i) d2 HM3.out (HY2.out V HG.out) HO3.out HO4.out HL3.out (by decide)
    refine step_run rfl (.tmp 66) (.tmp 72) 51 51 rfl _ _ (by rfl) (by rfl) _ _ hrun ?_
    clear hrun
    (try have HN2 := Lib.hid (ne_nw HN.out hn2 (blk_lt H10.out)))
    (try have H10 := Lib.hid ((hg2.block _ (blk_lt H10.out) (fun e => HN.out _ e.symm rfl)).trans H10.out))
    (try have HN := HN2)
    (try clear HN2)
    have HG := Lib.hid (below_fresh HG.out hg2 HR.out.fr)
    have HR := Lib.hid hr2
    clear hr2 hg2 hn2
    refine letK ?_
    intro V hV
    rw [← hV] at HR HG
    (try rw [← hV] at H10)
    clear hV
    have f30 := HFZ.out V HG.out
    have c30 := HSK.out V HG.out
    refine hK.out _ _ (.inr (HSK.out _ HG.out)) ?_
    clear hK K
    try simp only [Act.put]
    refine wpY_one (i := 19) (by kernel_rfl) rfl (fun K hK => ?_)
    go_simp
    refine hK.out _ _ (.inr (HSK.out _ HG.out)) ?_
    clear hK K
    try simp only [Act.put, List.setIfInBounds_toArray, List.set_cons_zero, List.set_cons_succ]
    refine wpY_one (i := 20) (by kernel_rfl) rfl (fun K hK => ?_)
    go_simp
    refine hK.out _ _ (.inr (HSK.out _ HG.out)) ?_
    clear hK K
    try simp only [Act.put, List.setIfInBounds_toArray, List.set_cons_zero, List.set_cons_succ]
    refine wpY_one (i := 21) (by kernel_rfl) rfl (fun K hK => ?_)
    go_simp
    refine hK.out _ _ (.inl (by decide)) ?_
    clear hK K
    try simp only [Act.put, List.setIfInBounds_toArray, List.set_cons_zero, List.set_cons_succ]
    refine wpY_done (by kernel_rfl) ?_ _
    apply hQ
    have hro := HR.out
    rw [HEQ.out] at hro
    obtain ⟨h1, h2⟩ := HS.out.setV HRS.out HG.out hro
    exact ⟨_, Lib.hid h1, Lib.hid h2⟩
noncomputable def cd_3_code : Code := ((Try.f37.body.bind (findRg 3)).getD .skip)
set_option maxRecDepth 1000000 in
set_option maxHeartbeats 8000000 in
theorem cd_3 (r i : Nat) (S : Nat → Prop) (KL : List BC.Ky) (Vs : List Int) (hi : i < KL.length) (hl : KL.length ≤ 100000) (wc : World) (HS : Hid (RBc wc S r KL Vs)) {Q : Exit → Act → World → Prop} (t1 t2 t3 t4 t6 t7 t8 t9 t10 t11 t12 t13 t14 t15 t16 t17 t18 t19 t20 t21 t22 t23 t24 t25 t26 t27 t28 t29 t30 t31 t32 t33 t34 t35 t36 t37 t38 t39 t40 t41 t42 t43 t44 t45 t46 t47 t48 t49 t50 t51 t52 : Value) (hQ : ∀ (u14 u15 u16 u17 u18 u19 u20 u21 u22 u23 u24 u25 u26 u27 u28 u29 u30 u31 u32 : Value) (w' : World), (∃ S', Hid (RBc w' S' r (KL.take i ++ KL.drop (i + 1)) Vs) ∧ Hid (Ch wc S w' S')) → Q .normal ⟨(.pointer (some ⟨r, 0, none⟩) :: t1 :: t2 :: t3 :: t4 :: .int .i64 i :: t6 :: t7 :: t8 :: t9 :: t10 :: t11 :: t12 :: t13 :: u14 :: u15 :: u16 :: u17 :: u18 :: u19 :: u20 :: u21 :: u22 :: u23 :: u24 :: u25 :: u26 :: u27 :: u28 :: u29 :: u30 :: u31 :: u32 :: t33 :: t34 :: t35 :: t36 :: t37 :: t38 :: t39 :: t40 :: t41 :: t42 :: t43 :: t44 :: t45 :: t46 :: t47 :: t48 :: t49 :: t50 :: t51 :: t52 :: []).toArray, []⟩ w') :
    Code.wp Try.prog cd_3_code Q ⟨(.pointer (some ⟨r, 0, none⟩) :: t1 :: t2 :: t3 :: t4 :: .int .i64 i :: t6 :: t7 :: t8 :: t9 :: t10 :: t11 :: t12 :: t13 :: t14 :: t15 :: t16 :: t17 :: t18 :: t19 :: t20 :: t21 :: t22 :: t23 :: t24 :: t25 :: t26 :: t27 :: t28 :: t29 :: t30 :: t31 :: t32 :: t33 :: t34 :: t35 :: t36 :: t37 :: t38 :: t39 :: t40 :: t41 :: t42 :: t43 :: t44 :: t45 :: t46 :: t47 :: t48 :: t49 :: t50 :: t51 :: t52 :: []).toArray, []⟩ wc := by
  refine wp_onN ?_
  conv => arg 2; whnf
  obtain ⟨kA, kc, vA, vc, hb, hk, hv, -, -, hf⟩ := HS.out.box
  have hkl : (BC.ksR KL).length = KL.length := List.length_map _
  have HSK := Lib.hid (fun V (hV : Below wc.heap.size wc V) => show V.cell? ⟨r, 0, none⟩ = some (.slice kA KL.length kc) from by
    rw [blk_cell ((hV.block r (blk_lt hb)).trans hb)]
    rfl)
  have HFZ := Lib.hid (fun V (hV : Below wc.heap.size wc V) => blk_frozen ((hV.block r (blk_lt hb)).trans hb) 0)
  have HRS := Lib.hid (blk_lt hb)
  obtain ⟨⟨B1, d1, hs1, hy1⟩, -⟩ := row_parts (P := Try.prog) Try.underlying69 infoBC hk hkl.symm i (by omega)
  obtain ⟨-, ⟨B2, d2, hs2, hy2⟩⟩ := row_parts (P := Try.prog) Try.underlying69 infoBC hk hkl.symm (i + 1) hi
  have e1 : ((i + 1 : Nat) : Int) = (i : Int) + 1 := by omega
  rw [e1] at hs2
  have hw1 : IntKind.i64.wrap ((i : Int) + 1) = (i : Int) + 1 := by rw [IntKind.wrap_i64]; omega
  have hib : (i : Int) ≤ 100000 := by omega
  have hlt : ((BC.ksR KL).take i).length = i := by rw [List.length_take, hkl]; omega
  have hld : ((BC.ksR KL).drop (i + 1)).length = KL.length - (i + 1) := by rw [List.length_drop, hkl]
  have HY1 := Lib.hid (fun V (hV : Below wc.heap.size wc V) => hy1.below hV)
  have HY2 := Lib.hid (fun V (hV : Below wc.heap.size wc V) => hy2.below hV)
  have HM1 := Lib.hid hlt.symm
  have HM3 := Lib.hid hld.symm
  have HO1 := Lib.hid (show One ((BC.ksR KL).take i) from fun u hu => BC.ksR_one _ u (List.mem_of_mem_take hu))
  have HO3 := Lib.hid (show One ((BC.ksR KL).drop (i + 1)) from fun u hu => BC.ksR_one _ u (List.mem_of_mem_drop hu))
  have HO2 := Lib.hid (show One ([] ++ (BC.ksR KL).take i) from HO1.out)
  have HL1 := Lib.hid (show ([] : List Value).length + ((BC.ksR KL).take i).length ≤ 1000000 by rw [hlt]; simp; omega)
  have HL3 := Lib.hid (show ([] ++ (BC.ksR KL).take i).length + ((BC.ksR KL).drop (i + 1)).length ≤ 1000000 by rw [hld, List.nil_append, hlt]; omega)
  have HEQ := Lib.hid (show [] ++ (BC.ksR KL).take i ++ (BC.ksR KL).drop (i + 1) = BC.ksR (KL.take i ++ KL.drop (i + 1)) by unfold BC.ksR; simp [List.map_take, List.map_drop])
  have HKK := Lib.hid (show ∀ x ∈ KL.take i ++ KL.drop (i + 1), Fs wc S x from fun x hx => by
    rcases List.mem_append.1 hx with hx | hx
    · exact hf x (List.mem_of_mem_take hx)
    · exact hf x (List.mem_of_mem_drop hx))
  clear hf hb hk hv hkl hy1 hy2 hlt hld
  refine wp_region_Y1 (by kernel_rfl) ?_
  intro V hV
  refine wpY_take (i := 0) (v := ?_) [] rfl (by kernel_rfl) (by kernel_rfl) (by kernel_rfl) (by kernel_rfl) (fun _ _ _ h => h) (Or.inl ⟨by rfl, ?_⟩) trivial ?_
  rotate_left
  · (intro wS hSw; (try dsimp only at hSw); go_simp; (try (with_reducible rfl)))
  try simp only [Act.put, List.setIfInBounds_toArray]
  refine wpY_take (i := 2) (v := ?_) [] rfl (by kernel_rfl) (by kernel_rfl) (by kernel_rfl) (by kernel_rfl) (fun _ _ _ h => h) (Or.inl ⟨by rfl, ?_⟩) trivial ?_
  rotate_left
  · (intro wS hSw; (try dsimp only at hSw); go_simp; (try (with_reducible rfl)))
  try simp only [Act.put]
  refine wpY_take (i := 3) (v := ?_) [] rfl (by kernel_rfl) (by kernel_rfl) (by kernel_rfl) (by kernel_rfl) (fun _ _ _ h => h) (Or.inl ⟨by rfl, ?_⟩) trivial ?_
  rotate_left
  · (intro wS hSw; (try dsimp only at hSw); go_simp; (try (with_reducible rfl)))
  try simp only [Act.put]
  refine wpY_take (i := 4) (v := ?_) [] rfl (by kernel_rfl) (by kernel_rfl) (by kernel_rfl) (by kernel_rfl) (fun _ _ _ h => h) (Or.inl ⟨by rfl, ?_⟩) trivial ?_
  rotate_left
  · (intro wS hSw; (try dsimp only at hSw); go_simp; (try (with_reducible rfl)))
  try simp only [Act.put]
  refine wpY_take (i := 6) (v := ?_) [] rfl (by kernel_rfl) (by kernel_rfl) (by kernel_rfl) (by kernel_rfl) (fun _ _ _ h => h) (Or.inl ⟨by rfl, ?_⟩) trivial ?_
  rotate_left
  · (intro wS hSw; (try dsimp only at hSw); go_simp; (try (with_reducible rfl)))
  try simp only [Act.put]
  refine wpY_take (i := 9) (v := ?_) [] rfl (by kernel_rfl) (by kernel_rfl) (by kernel_rfl) (by kernel_rfl) (fun _ _ _ h => h) (Or.inl ⟨by rfl, ?_⟩) trivial ?_
  rotate_left
  · (intro wS hSw; (try dsimp only at hSw); go_simp; (try (with_reducible rfl)))
  try simp only [Act.put]
  refine wpY_take (i := 10) (v := ?_) [] rfl (by kernel_rfl) (by kernel_rfl) (by kernel_rfl) (by kernel_rfl) (fun _ _ _ h => h) (Or.inl ⟨by rfl, ?_⟩) trivial ?_
  rotate_left
  · (intro wS hSw; (try dsimp only at hSw); go_simp; (try (with_reducible rfl)))
  try simp only [Act.put]
  refine wpY_take (i := 11) (v := ?_) [] rfl (by kernel_rfl) (by kernel_rfl) (by kernel_rfl) (by kernel_rfl) (fun _ _ _ h => h) (Or.inl ⟨by rfl, ?_⟩) trivial ?_
  rotate_left
  · (intro wS hSw; (try dsimp only at hSw); go_simp; (try (with_reducible rfl)))
  try simp only [Act.put]
  refine wpY_take (i := 13) (v := ?_) [] rfl (by kernel_rfl) (by kernel_rfl) (by kernel_rfl) (by kernel_rfl) (fun _ _ _ h => h) (Or.inl ⟨by rfl, ?_⟩) trivial ?_
  rotate_left
  · (intro wS hSw; (try dsimp only at hSw); go_simp; (try (with_reducible rfl)))
  try simp only [Act.put]
  refine wpY_take (i := 14) (v := ?_) [] rfl (by kernel_rfl) (by kernel_rfl) (by kernel_rfl) (by kernel_rfl) (fun _ _ _ h => h) (Or.inl ⟨by rfl, ?_⟩) trivial ?_
  rotate_left
  · (intro wS hSw; (try dsimp only at hSw); go_simp; (try (with_reducible rfl)))
  try simp only [Act.put]
  have HG := Lib.hid (show Below wc.heap.size wc V from by rw [hV]; exact (Below.refl _ _).drew)
  clear hV
  have hS0 := HSK.out V HG.out
  refine wpY_swap ((fun W' => W'.cell? ⟨r, 0, none⟩ = some (.slice kA KL.length kc))) [19] ?_
  refine wpY_take (i := 5) (v := ?_) [[19]] rfl (by kernel_rfl) (by kernel_rfl) (by kernel_rfl) (by kernel_rfl) (fun _ _ _ h => h) (Or.inl ⟨by rfl, ?_⟩) (by assumption) ?_
  rotate_left
  · (intro wS hSw; (try dsimp only at hSw); go_simp; (try (with_reducible rfl)))
  try simp only [Act.put]
  refine wpY_take (i := 7) (v := ?_) [[19]] rfl (by kernel_rfl) (by kernel_rfl) (by kernel_rfl) (by kernel_rfl) (fun _ _ _ h => h) (Or.inl ⟨by rfl, ?_⟩) (by assumption) ?_
  rotate_left
  · (intro wS hSw; (try dsimp only at hSw); go_simp; (try (with_reducible rfl)))
  try simp only [Act.put]
  refine wpY_take (i := 12) (v := ?_) [[19]] rfl (by kernel_rfl) (by kernel_rfl) (by kernel_rfl) (by kernel_rfl) (fun _ _ _ h => h) (Or.inl ⟨by rfl, ?_⟩) (by assumption) ?_
  rotate_left
  · (intro wS hSw; (try dsimp only at hSw); go_simp; (try (with_reducible rfl)))
  try simp only [Act.put]
  refine wpY_take (i := 15) (v := ?_) [[19]] rfl (by kernel_rfl) (by kernel_rfl) (by kernel_rfl) (by kernel_rfl) (fun _ _ _ h => h) (Or.inl ⟨by rfl, ?_⟩) (by assumption) ?_
  rotate_left
  · (intro wS hSw; (try dsimp only at hSw); go_simp; (try (with_reducible rfl)))
  try simp only [Act.put]
  refine wpY_one (i := 1) (by kernel_rfl) rfl (fun K hK => ?_)
  go_simp
  have HR1 := Lib.hid (Ro.new (V := V) (wc := wc) 22 HG.out.size)
  have HG := Lib.hid (HG.out.alloc HG.out.size (.cells #[] 22))
  refine letK ?_
  intro V hV
  rw [← hV] at HG HR1
  clear hV
  have HR := HR1
  clear HR1
  refine hK.out _ _ (.inr (HSK.out _ HG.out)) ?_
  clear hK K
  try simp only [Act.put, List.setIfInBounds_toArray, List.set_cons_zero, List.set_cons_succ]
  refine wpY_one (i := 8) (by kernel_rfl) rfl (fun K hK => ?_)
  obtain ⟨Ak, lk, ck, V', hrun, -, hr2, hg2, hn2⟩ := HR.out.app (P := Try.prog) 69 69 _ _ Try.underlying69 infoBC rfl HG.out.size B1 i d1 HM1.out (HY1.out V HG.out) HO1.out (fun _ h => by cases h) HL1.out (by decide)
  refine step_run rfl (.tmp 15) (.tmp 21) 69 69 rfl _ _ (by rfl) (by rfl) _ _ hrun ?_
  clear hrun
  have HG := Lib.hid (below_fresh HG.out hg2 HR.out.fr)
  have HR := Lib.hid hr2
  clear hr2 hg2 hn2
  refine letK ?_
  intro V hV
  rw [← hV] at HR HG
  clear hV
  refine hK.out _ _ (.inr (HSK.out _ HG.out)) ?_
  clear hK K
  try simp only [Act.put, List.setIfInBounds_toArray]
  refine wpY_one (i := 16) (by kernel_rfl) rfl (fun K hK => ?_)
  obtain ⟨Ak, lk, ck, V', hrun, -, hr2, hg2, hn2⟩ := HR.out.app (P := Try.prog) 69 69 _ _ Try.underlying69 infoBC rfl HG.out.size B2 (KL.length - (i + 1)) d2 HM3.out (HY2.out V HG.out) HO3.out HO2.out HL3.out (by decide)
  refine step_run rfl (.tmp 22) (.tmp 29) 69 69 rfl _ _ (by rfl) (by rfl) _ _ hrun ?_
  clear hrun
  have HG := Lib.hid (below_fresh HG.out hg2 HR.out.fr)
  have HR := Lib.hid hr2
  clear hr2 hg2 hn2
  refine letK ?_
  intro V hV
  rw [← hV] at HR HG
  clear hV
  have f30 := HFZ.out V HG.out
  have c30 := HSK.out V HG.out
  refine hK.out _ _ (.inr (HSK.out _ HG.out)) ?_
  clear hK K
  try simp only [Act.put]
  refine wpY_one (i := 17) (by kernel_rfl) rfl (fun K hK => ?_)
  go_simp
  refine hK.out _ _ (.inr (HSK.out _ HG.out)) ?_
  clear hK K
  try simp only [Act.put, List.setIfInBounds_toArray, List.set_cons_zero, List.set_cons_succ]
  refine wpY_one (i := 18) (by kernel_rfl) rfl (fun K hK => ?_)
  go_simp
  refine hK.out _ _ (.inr (HSK.out _ HG.out)) ?_
  clear hK K
  try simp only [Act.put, List.setIfInBounds_toArray, List.set_cons_zero, List.set_cons_succ]
  refine wpY_one (i := 19) (by kernel_rfl) rfl (fun K hK => ?_)
  go_simp
  refine hK.out _ _ (.inl (by decide)) ?_
  clear hK K
  try simp only [Act.put, List.setIfInBounds_toArray, List.set_cons_zero, List.set_cons_succ]
  refine wpY_done (by kernel_rfl) ?_ _
  apply hQ
  have hro := HR.out
  rw [HEQ.out] at hro
  obtain ⟨h1, h2⟩ := HS.out.setK HRS.out HG.out hro HKK.out
  exact ⟨_, Lib.hid h1, Lib.hid h2⟩
noncomputable def cd_4_code : Code := ((Try.f37.body.bind (findRg 4)).getD .skip)
set_option maxRecDepth 1000000 in
set_option maxHeartbeats 8000000 in
theorem cd_4 (r i : Nat) (S : Nat → Prop) (KL : List BC.Ky) (Vs : List Int) (hi : i < Vs.length) (hl : Vs.length ≤ 100000) (wc : World) (HS : Hid (RBc wc S r KL Vs)) {Q : Exit → Act → World → Prop} (t1 t2 t3 t4 t6 t7 t8 t9 t10 t11 t12 t13 t14 t15 t16 t17 t18 t19 t20 t21 t22 t23 t24 t25 t26 t27 t28 t29 t30 t31 t32 t33 t34 t35 t36 t37 t38 t39 t40 t41 t42 t43 t44 t45 t46 t47 t48 t49 t50 t51 t52 : Value) (hQ : ∀ (u33 u34 u35 u36 u37 u38 u39 u40 u41 u42 u43 u44 u45 u46 u47 u48 u49 u50 u51 : Value) (w' : World), (∃ S', Hid (RBc w' S' r KL (Vs.take i ++ Vs.drop (i + 1))) ∧ Hid (Ch wc S w' S')) → Q .normal ⟨(.pointer (some ⟨r, 0, none⟩) :: t1 :: t2 :: t3 :: t4 :: .int .i64 i :: t6 :: t7 :: t8 :: t9 :: t10 :: t11 :: t12 :: t13 :: t14 :: t15 :: t16 :: t17 :: t18 :: t19 :: t20 :: t21 :: t22 :: t23 :: t24 :: t25 :: t26 :: t27 :: t28 :: t29 :: t30 :: t31 :: t32 :: u33 :: u34 :: u35 :: u36 :: u37 :: u38 :: u39 :: u40 :: u41 :: u42 :: u43 :: u44 :: u45 :: u46 :: u47 :: u48 :: u49 :: u50 :: u51 :: t52 :: []).toArray, []⟩ w') :
    Code.wp Try.prog cd_4_code Q ⟨(.pointer (some ⟨r, 0, none⟩) :: t1 :: t2 :: t3 :: t4 :: .int .i64 i :: t6 :: t7 :: t8 :: t9 :: t10 :: t11 :: t12 :: t13 :: t14 :: t15 :: t16 :: t17 :: t18 :: t19 :: t20 :: t21 :: t22 :: t23 :: t24 :: t25 :: t26 :: t27 :: t28 :: t29 :: t30 :: t31 :: t32 :: t33 :: t34 :: t35 :: t36 :: t37 :: t38 :: t39 :: t40 :: t41 :: t42 :: t43 :: t44 :: t45 :: t46 :: t47 :: t48 :: t49 :: t50 :: t51 :: t52 :: []).toArray, []⟩ wc := by
  refine wp_onN ?_
  conv => arg 2; whnf
  obtain ⟨kA, kc, vA, vc, hb, hk, hv, -, -, hf⟩ := HS.out.box
  have hkl : (BC.vsR Vs).length = Vs.length := List.length_map _
  have HSK := Lib.hid (fun V (hV : Below wc.heap.size wc V) => show V.cell? ⟨r, 1, none⟩ = some (.slice vA Vs.length vc) from by
    rw [blk_cell ((hV.block r (blk_lt hb)).trans hb)]
    rfl)
  have HFZ := Lib.hid (fun V (hV : Below wc.heap.size wc V) => blk_frozen ((hV.block r (blk_lt hb)).trans hb) 1)
  have HRS := Lib.hid (blk_lt hb)
  obtain ⟨⟨B1, d1, hs1, hy1⟩, -⟩ := row_parts (P := Try.prog) Try.underlying51 infoBU hv hkl.symm i (by omega)
  obtain ⟨-, ⟨B2, d2, hs2, hy2⟩⟩ := row_parts (P := Try.prog) Try.underlying51 infoBU hv hkl.symm (i + 1) hi
  have e1 : ((i + 1 : Nat) : Int) = (i : Int) + 1 := by omega
  rw [e1] at hs2
  have hw1 : IntKind.i64.wrap ((i : Int) + 1) = (i : Int) + 1 := by rw [IntKind.wrap_i64]; omega
  have hib : (i : Int) ≤ 100000 := by omega
  have hlt : ((BC.vsR Vs).take i).length = i := by rw [List.length_take, hkl]; omega
  have hld : ((BC.vsR Vs).drop (i + 1)).length = Vs.length - (i + 1) := by rw [List.length_drop, hkl]
  have HY1 := Lib.hid (fun V (hV : Below wc.heap.size wc V) => hy1.below hV)
  have HY2 := Lib.hid (fun V (hV : Below wc.heap.size wc V) => hy2.below hV)
  have HM1 := Lib.hid hlt.symm
  have HM3 := Lib.hid hld.symm
  have HO1 := Lib.hid (show One ((BC.vsR Vs).take i) from fun u hu => BC.vsR_one _ u (List.mem_of_mem_take hu))
  have HO3 := Lib.hid (show One ((BC.vsR Vs).drop (i + 1)) from fun u hu => BC.vsR_one _ u (List.mem_of_mem_drop hu))
  have HO2 := Lib.hid (show One ([] ++ (BC.vsR Vs).take i) from HO1.out)
  have HL1 := Lib.hid (show ([] : List Value).length + ((BC.vsR Vs).take i).length ≤ 1000000 by rw [hlt]; simp; omega)
  have HL3 := Lib.hid (show ([] ++ (BC.vsR Vs).take i).length + ((BC.vsR Vs).drop (i + 1)).length ≤ 1000000 by rw [hld, List.nil_append, hlt]; omega)
  have HEQ := Lib.hid (show [] ++ (BC.vsR Vs).take i ++ (BC.vsR Vs).drop (i + 1) = BC.vsR (Vs.take i ++ Vs.drop (i + 1)) by unfold BC.vsR; simp [List.map_take, List.map_drop])
  clear hf hb hk hv hkl hy1 hy2 hlt hld
  refine wp_region_Y1 (by kernel_rfl) ?_
  intro V hV
  refine wpY_take (i := 0) (v := ?_) [] rfl (by kernel_rfl) (by kernel_rfl) (by kernel_rfl) (by kernel_rfl) (fun _ _ _ h => h) (Or.inl ⟨by rfl, ?_⟩) trivial ?_
  rotate_left
  · (intro wS hSw; (try dsimp only at hSw); go_simp; (try (with_reducible rfl)))
  try simp only [Act.put, List.setIfInBounds_toArray]
  refine wpY_take (i := 2) (v := ?_) [] rfl (by kernel_rfl) (by kernel_rfl) (by kernel_rfl) (by kernel_rfl) (fun _ _ _ h => h) (Or.inl ⟨by rfl, ?_⟩) trivial ?_
  rotate_left
  · (intro wS hSw; (try dsimp only at hSw); go_simp; (try (with_reducible rfl)))
  try simp only [Act.put]
  refine wpY_take (i := 3) (v := ?_) [] rfl (by kernel_rfl) (by kernel_rfl) (by kernel_rfl) (by kernel_rfl) (fun _ _ _ h => h) (Or.inl ⟨by rfl, ?_⟩) trivial ?_
  rotate_left
  · (intro wS hSw; (try dsimp only at hSw); go_simp; (try (with_reducible rfl)))
  try simp only [Act.put]
  refine wpY_take (i := 4) (v := ?_) [] rfl (by kernel_rfl) (by kernel_rfl) (by kernel_rfl) (by kernel_rfl) (fun _ _ _ h => h) (Or.inl ⟨by rfl, ?_⟩) trivial ?_
  rotate_left
  · (intro wS hSw; (try dsimp only at hSw); go_simp; (try (with_reducible rfl)))
  try simp only [Act.put]
  refine wpY_take (i := 6) (v := ?_) [] rfl (by kernel_rfl) (by kernel_rfl) (by kernel_rfl) (by kernel_rfl) (fun _ _ _ h => h) (Or.inl ⟨by rfl, ?_⟩) trivial ?_
  rotate_left
  · (intro wS hSw; (try dsimp only at hSw); go_simp; (try (with_reducible rfl)))
  try simp only [Act.put]
  refine wpY_take (i := 9) (v := ?_) [] rfl (by kernel_rfl) (by kernel_rfl) (by kernel_rfl) (by kernel_rfl) (fun _ _ _ h => h) (Or.inl ⟨by rfl, ?_⟩) trivial ?_
  rotate_left
  · (intro wS hSw; (try dsimp only at hSw); go_simp; (try (with_reducible rfl)))
  try simp only [Act.put]
  refine wpY_take (i := 10) (v := ?_) [] rfl (by kernel_rfl) (by kernel_rfl) (by kernel_rfl) (by kernel_rfl) (fun _ _ _ h => h) (Or.inl ⟨by rfl, ?_⟩) trivial ?_
  rotate_left
  · (intro wS hSw; (try dsimp only at hSw); go_simp; (try (with_reducible rfl)))
  try simp only [Act.put]
  refine wpY_take (i := 11) (v := ?_) [] rfl (by kernel_rfl) (by kernel_rfl) (by kernel_rfl) (by kernel_rfl) (fun _ _ _ h => h) (Or.inl ⟨by rfl, ?_⟩) trivial ?_
  rotate_left
  · (intro wS hSw; (try dsimp only at hSw); go_simp; (try (with_reducible rfl)))
  try simp only [Act.put]
  refine wpY_take (i := 13) (v := ?_) [] rfl (by kernel_rfl) (by kernel_rfl) (by kernel_rfl) (by kernel_rfl) (fun _ _ _ h => h) (Or.inl ⟨by rfl, ?_⟩) trivial ?_
  rotate_left
  · (intro wS hSw; (try dsimp only at hSw); go_simp; (try (with_reducible rfl)))
  try simp only [Act.put]
  refine wpY_take (i := 14) (v := ?_) [] rfl (by kernel_rfl) (by kernel_rfl) (by kernel_rfl) (by kernel_rfl) (fun _ _ _ h => h) (Or.inl ⟨by rfl, ?_⟩) trivial ?_
  rotate_left
  · (intro wS hSw; (try dsimp only at hSw); go_simp; (try (with_reducible rfl)))
  try simp only [Act.put]
  have HG := Lib.hid (show Below wc.heap.size wc V from by rw [hV]; exact (Below.refl _ _).drew)
  clear hV
  have hS0 := HSK.out V HG.out
  refine wpY_swap ((fun W' => W'.cell? ⟨r, 1, none⟩ = some (.slice vA Vs.length vc))) [19] ?_
  refine wpY_take (i := 5) (v := ?_) [[19]] rfl (by kernel_rfl) (by kernel_rfl) (by kernel_rfl) (by kernel_rfl) (fun _ _ _ h => h) (Or.inl ⟨by rfl, ?_⟩) (by assumption) ?_
  rotate_left
  · (intro wS hSw; (try dsimp only at hSw); go_simp; (try (with_reducible rfl)))
  try simp only [Act.put]
  refine wpY_take (i := 7) (v := ?_) [[19]] rfl (by kernel_rfl) (by kernel_rfl) (by kernel_rfl) (by kernel_rfl) (fun _ _ _ h => h) (Or.inl ⟨by rfl, ?_⟩) (by assumption) ?_
  rotate_left
  · (intro wS hSw; (try dsimp only at hSw); go_simp; (try (with_reducible rfl)))
  try simp only [Act.put]
  refine wpY_take (i := 12) (v := ?_) [[19]] rfl (by kernel_rfl) (by kernel_rfl) (by kernel_rfl) (by kernel_rfl) (fun _ _ _ h => h) (Or.inl ⟨by rfl, ?_⟩) (by assumption) ?_
  rotate_left
  · (intro wS hSw; (try dsimp only at hSw); go_simp; (try (with_reducible rfl)))
  try simp only [Act.put]
  refine wpY_take (i := 15) (v := ?_) [[19]] rfl (by kernel_rfl) (by kernel_rfl) (by kernel_rfl) (by kernel_rfl) (fun _ _ _ h => h) (Or.inl ⟨by rfl, ?_⟩) (by assumption) ?_
  rotate_left
  · (intro wS hSw; (try dsimp only at hSw); go_simp; (try (with_reducible rfl)))
  try simp only [Act.put]
  refine wpY_one (i := 1) (by kernel_rfl) rfl (fun K hK => ?_)
  go_simp
  have HR1 := Lib.hid (Ro.new (V := V) (wc := wc) 38 HG.out.size)
  have HG := Lib.hid (HG.out.alloc HG.out.size (.cells #[] 38))
  refine letK ?_
  intro V hV
  rw [← hV] at HG HR1
  clear hV
  have HR := HR1
  clear HR1
  refine hK.out _ _ (.inr (HSK.out _ HG.out)) ?_
  clear hK K
  try simp only [Act.put, List.setIfInBounds_toArray, List.set_cons_zero, List.set_cons_succ]
  refine wpY_one (i := 8) (by kernel_rfl) rfl (fun K hK => ?_)
  obtain ⟨Ak, lk, ck, V', hrun, -, hr2, hg2, hn2⟩ := HR.out.app (P := Try.prog) 51 51 _ _ Try.underlying51 infoBU rfl HG.out.size B1 i d1 HM1.out (HY1.out V HG.out) HO1.out (fun _ h => by cases h) HL1.out (by decide)
  refine step_run rfl (.tmp 34) (.tmp 40) 51 51 rfl _ _ (by rfl) (by rfl) _ _ hrun ?_
  clear hrun
  have HG := Lib.hid (below_fresh HG.out hg2 HR.out.fr)
  have HR := Lib.hid hr2
  clear hr2 hg2 hn2
  refine letK ?_
  intro V hV
  rw [← hV] at HR HG
  clear hV
  refine hK.out _ _ (.inr (HSK.out _ HG.out)) ?_
  clear hK K
  try simp only [Act.put, List.setIfInBounds_toArray]
  refine wpY_one (i := 16) (by kernel_rfl) rfl (fun K hK => ?_)
  obtain ⟨Ak, lk, ck, V', hrun, -, hr2, hg2, hn2⟩ := HR.out.app (P := Try.prog) 51 51 _ _ Try.underlying51 infoBU rfl HG.out.size B2 (Vs.length - (i + 1)) d2 HM3.out (HY2.out V HG.out) HO3.out HO2.out HL3.out (by decide)
  refine step_run rfl (.tmp 41) (.tmp 48) 51 51 rfl _ _ (by rfl) (by rfl) _ _ hrun ?_
  clear hrun
  have HG := Lib.hid (below_fresh HG.out hg2 HR.out.fr)
  have HR := Lib.hid hr2
  clear hr2 hg2 hn2
  refine letK ?_
  intro V hV
  rw [← hV] at HR HG
  clear hV
  have f30 := HFZ.out V HG.out
  have c30 := HSK.out V HG.out
  refine hK.out _ _ (.inr (HSK.out _ HG.out)) ?_
  clear hK K
  try simp only [Act.put]
  refine wpY_one (i := 17) (by kernel_rfl) rfl (fun K hK => ?_)
  go_simp
  refine hK.out _ _ (.inr (HSK.out _ HG.out)) ?_
  clear hK K
  try simp only [Act.put, List.setIfInBounds_toArray, List.set_cons_zero, List.set_cons_succ]
  refine wpY_one (i := 18) (by kernel_rfl) rfl (fun K hK => ?_)
  go_simp
  refine hK.out _ _ (.inr (HSK.out _ HG.out)) ?_
  clear hK K
  try simp only [Act.put, List.setIfInBounds_toArray, List.set_cons_zero, List.set_cons_succ]
  refine wpY_one (i := 19) (by kernel_rfl) rfl (fun K hK => ?_)
  go_simp
  refine hK.out _ _ (.inl (by decide)) ?_
  clear hK K
  try simp only [Act.put, List.setIfInBounds_toArray, List.set_cons_zero, List.set_cons_succ]
  refine wpY_done (by kernel_rfl) ?_ _
  apply hQ
  have hro := HR.out
  rw [HEQ.out] at hro
  obtain ⟨h1, h2⟩ := HS.out.setV HRS.out HG.out hro
  exact ⟨_, Lib.hid h1, Lib.hid h2⟩
end Go.Proofs.Ytfhonfeopkhdeaa
