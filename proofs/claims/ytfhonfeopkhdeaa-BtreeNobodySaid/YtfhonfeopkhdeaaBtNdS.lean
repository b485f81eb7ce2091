/-
  Nodes of a tree of names, told in order. No premise.
-/
import Derived.Test.YtfhonfeopkhdeaaBtNwS
import Derived.Deep.AppendLies
namespace Go.Proofs.Ytfhonfeopkhdeaa.BS
open Go.RowKit Go.Proofs.YtfhonfeopkhdeaaW.PrintWords

/-- A node, as Nodes tells it. -/
structure Nt where
  lv : Nat
  lf : Bool
  ks : List Ky
def nodesL : (h : Nat) → BT Ky h → Nat → List Nt
  | 0, t, lv => [⟨lv, true, t.its.map (·.1)⟩]
  | h + 1, t, lv => ⟨lv, false, t.its.map (·.1)⟩ :: t.kds.flatMap (fun c => nodesL h c (lv + 1))
theorem nodesL_len : (h : Nat) → (t : BT Ky h) → (lv : Nat) → (nodesL h t lv).length = (ids h t).length
  | 0, _, _ => rfl
  | h + 1, t, lv => by
    show (t.kds.flatMap (fun c => nodesL h c (lv + 1))).length + 1 = (t.kds.flatMap (ids h)).length + 1
    rw [List.length_flatMap, List.length_flatMap, List.map_congr_left fun c _ => nodesL_len h c (lv + 1)]
def ntC (x : Nt × Value) : List Value := [.int .i64 x.1.lv, .bool x.1.lf, x.2]
def ntR (l : List (Nt × Value)) : List Value := l.flatMap ntC
theorem ntR_len (l : List (Nt × Value)) : (ntR l).length = l.length * 3 := by
  induction l with
  | nil => rfl
  | cons a l ih => rw [ntR, List.flatMap_cons, List.length_append, ← ntR, ih, List.length_cons]; show 3 + _ = _; omega
theorem ntR_append (a b : List (Nt × Value)) : ntR (a ++ b) = ntR a ++ ntR b := List.flatMap_append
/-- A row of nodes of one's own. -/
structure NsO (w : World) (base : Nat) (v : Value) (l : List (Nt × Value)) : Prop where
  own : w.ownsRow base 36 3 v l.length (ntR l)
  ks : ∀ x ∈ l, Rw w 9 x.2 (ksR x.1.ks) ∧ ∀ g, x.2.ownBlock = some g → base ≤ g
theorem NsO.nil (w : World) (base : Nat) : NsO w base (.slice none 0 0) [] := ⟨World.ownsRow_nil w _ _ _, fun x hx => by cases hx⟩
theorem own_same (k : Ky) (w : World) : Calls Try.prog 51 #[kv k] w fun e w' => e = .returned (kv k) ∧ w' = w := by
  unfold kv
  go_enter Try.func51, Try.ntmps51
  go_wp2_with fail
  go_ret
  exact ⟨rfl, rfl⟩
theorem ownsRow_keep {w w' : World} {base e size n : Nat} {v : Value} {xs : List Value} (h : w.ownsRow base e size v n xs) (hk : ∀ g, v.ownBlock = some g → g < w.heap.size → w'.heap[g]? = w.heap[g]?) : w'.ownsRow base e size v n xs := by
  refine ⟨h.1, ?_⟩
  rcases h.2 with hn | ⟨g, cap, cur, rfl, hb, hg, rest⟩
  · exact .inl hn
  · exact .inr ⟨g, cap, cur, rfl, hb, (hk g rfl (Array.getElem?_eq_some_iff.1 hg).1).trans hg, rest⟩
theorem ownsRow_is {w : World} {base e size n : Nat} {v : Value} {xs : List Value} (h : w.ownsRow base e size v n xs) {g : Nat} (hg : v.ownBlock = some g) : ∃ cs, w.heap[g]? = some (.cells cs e (0, 0)) := by
  rcases h.2 with ⟨e', _⟩ | ⟨g', cap, cur, e', _, hgb, _⟩
  · rw [e'] at hg; cases hg
  · rw [e'] at hg
    cases hg
    exact ⟨cur, hgb⟩
theorem NsO.grow {w W w7 : World} {base : Nat} {v v7 : Value} {l : List (Nt × Value)} {x : Nt} {u : Value} (h : NsO w base v l) (hb : Below w.heap.size w W) (hg : W.grownBy w7 v.ownBlock) (hown : w7.ownsRow base 36 3 v7 (l.length + 1) (ntR l ++ ntC (x, u))) (hu : Rw W 9 u (ksR x.ks)) (hub : ∀ g, u.ownBlock = some g → base ≤ g) : NsO w7 base v7 (l ++ [(x, u)]) := by
  have hne : ∀ {y : Value} {ys : List Value}, Rw W 9 y ys → Rw w7 9 y ys := fun hy => hy.keep fun g hg2 hl => hg.block g hl fun e => by
    obtain ⟨cs, hc⟩ := ownsRow_is h.own e.symm
    obtain ⟨cur, hc2⟩ := hy.blk hg2
    have hc3 := (hb.block g (Array.getElem?_eq_some_iff.1 hc).1).trans hc
    exact blk_ne hc3 hc2 (by decide) rfl
  refine ⟨?_, fun y hy => ?_⟩
  · rw [List.length_append, ntR_append]
    have e : ntR [(x, u)] = ntC (x, u) := by simp [ntR]
    rw [e]
    exact hown
  · rcases List.mem_append.1 hy with hy | hy
    · obtain ⟨h1, h2⟩ := h.ks y hy
      exact ⟨hne (h1.keep fun g _ hl => hb.block g hl), h2⟩
    · rw [List.mem_singleton.1 hy]
      exact ⟨hne hu, hub⟩
theorem infoNode : (Try.prog.info? 36).map (fun i => (i.zero, i.size, i.bytes)) = some (some (.agg #[.int .i64 0, .bool false, .slice none 0 0]), 3, 40) := by kernel_rfl
/-- The box of a node while its keys are laid. -/
structure NbI (w0 : World) (B lv : Nat) (lf : Bool) (ks : List Ky) (i : Nat) (wr : World) : Prop where
  box : ∃ A c, wr.heap[B]? = some (.cells #[.int .i64 lv, .bool lf, .slice A i c] 36 (0, 0)) ∧ wr.ownsRow B 9 1 (.slice A i c) i (ksR (ks.take i))
  bl : Below B w0 wr
def NodesP (w0 : World) (l : List (Nt × Value)) (L : List Nt) (e : Ending) (w' : World) : Prop :=
  ∃ v' l', e = .returned v' ∧ NsO w' w0.heap.size v' l' ∧ l'.map (·.1) = l.map (·.1) ++ L ∧ Below w0.heap.size w0 w'
/-- What the rounds over the children have told. -/
def upto (L2 : Nat → List Nt) (i : Nat) : List Nt := (List.range i).flatMap L2
theorem upto_succ (L2 : Nat → List Nt) (i : Nat) : upto L2 (i + 1) = upto L2 i ++ L2 i := by unfold upto; rw [List.range_succ, List.flatMap_append]; simp
theorem upto_le (L2 : Nat → List Nt) {i n : Nat} (h : i ≤ n) : (upto L2 i).length ≤ (upto L2 n).length := by
  induction n with
  | zero => rw [Nat.le_zero.1 h]; exact Nat.le_refl _
  | succ n ih =>
    rcases Nat.lt_or_eq_of_le h with h | rfl
    · rw [upto_succ, List.length_append]; have := ih (by omega); omega
    · exact Nat.le_refl _
set_option maxRecDepth 100000 in
set_option maxHeartbeats 4000000 in
theorem nodes_node (p m sz q : Nat) (n : Nat) (its : List (Ky × Int)) (cs : List Nat) (w0 w : World) (o : Nat → Nat) (ht : TrAt w0 o p m sz q) (hN : NdE w0 o n (nf its cs)) (hits : its.length ≤ 1000) (hcs : cs.length ≤ 2000) (lf : Bool) (hlf : lf = decide (cs.length = 0)) (lv : Nat) (hlv : lv ≤ 1000000) (L2 : Nat → List Nt)
    (IH : ∀ j (hj : j < cs.length) (w : World) (v : Value) (l : List (Nt × Value)), Below w0.heap.size w0 w → NsO w w0.heap.size v l → l.length + (L2 j).length ≤ 1000000000 → Calls Try.prog 48 #[nv p, v, nv cs[j], .int .i64 (lv + 1 : Nat)] w (NodesP w0 l (L2 j)))
    (hB : Below w0.heap.size w0 w) (v : Value) (l : List (Nt × Value)) (hO : NsO w w0.heap.size v l) (hl : l.length + 1 + (upto L2 cs.length).length ≤ 1000000000) :
    Calls Try.prog 48 #[nv p, v, nv n, .int .i64 lv] w (NodesP w0 l (⟨lv, lf, its.map (·.1)⟩ :: upto L2 cs.length)) := by
  obtain ⟨vk, vv, vc, hn⟩ := hN
  obtain ⟨A1, c1, A2, c2, A3, c3, rfl, rfl, rfl, q1, q2, q3⟩ := hn.row
  have hkl : (nf its cs).ks.length = its.length := List.length_map _
  have hcl : (nf its cs).cs.length = cs.length := rfl
  have HN := Lib.hid (fun W (hW : Below w0.heap.size w0 W) => hn.keep (w' := W) (o' := o) fun b hb _ => ⟨hW.block b hb, rfl⟩)
  rw [hkl, hcl] at HN
  rw [hkl] at q1
  rw [hcl] at q3
  have HT := Lib.hid (fun W (hW : Below w0.heap.size w0 W) => (⟨(hW.block p (blk_lt ht.blk)).trans ht.blk, ht.tg⟩ : TrAt W o p m sz q))
  have HB := Lib.hid hB
  obtain ⟨-, -, d2⟩ := (HN.out w hB).cells
  have d0 : ∀ ob, (w.alloc ob).cell? ⟨n, 0, none⟩ = some (.slice A1 its.length c1) := fun ob => (HN.out _ (hB.alloc hB.size ob)).cells.1
  have HO := Lib.hid hO
  have eI : ((lv + 1 : Nat) : Int) = (lv : Int) + 1 := by omega
  rw [eI] at IH
  have HIH := Lib.hid IH
  have HLB := Lib.hid hl
  have f1 : ((cs.length : Int) == 0) = lf := by rw [hlf]; by_cases h : cs.length = 0 <;> simp [h]
  have f2 : decide ((cs.length : Int) = 0) = lf := by rw [hlf]; by_cases h : cs.length = 0 <;> simp [h]
  have f3 : decide (cs.length = 0) = lf := hlf.symm
  clear hn hO hB ht IH eI hkl hcl q2 hlf hl
  generalize (nf its cs).vs.length = nv2 at HN
  unfold nv at *
  go_enter Try.func48, Try.ntmps48
  go_wp2_with fail
  have hsz : w.heap.size ≤ w.heap.size := Nat.le_refl _
  obtain ⟨B, hBe⟩ : ∃ B, B = w.heap.size := ⟨_, rfl⟩
  have HI0 : Hid (NbI w B lv lf (its.map (·.1)) 0 (w.alloc (.cells #[.int .i64 lv, .bool lf, .slice none 0 0] 36))) := Lib.hid (by
    subst hBe
    exact ⟨⟨none, 0, top_blk _ _ _, World.ownsRow_nil _ _ _ _⟩, (Below.refl _ _).alloc (Nat.le_refl _) _⟩)
  rw [← hBe]
  have HBE := Lib.hid hBe
  clear hBe hsz d0 d2
  go_loopw [27] (fun t27 wr => ∃ i : Nat, i ≤ its.length ∧ t27 = .int .i64 i ∧ Hid (NbI w B lv lf (its.map (·.1)) i wr)) (fun t27 _ => its.length - (intOf t27).toNat)
  case atStart => exact ⟨0, Nat.zero_le _, rfl, HI0⟩
  case round =>
    obtain ⟨i, hi, rfl, HI⟩ := hrel
    have HBW := Lib.hid (HB.out.trans (HI.out.bl.mono (show w0.heap.size ≤ B from by have := HBE.out; have := HB.out.size; omega)))
    by_cases h : i < its.length
    · have hi1 : (i : Int) < (its.length : Int) := by omega
      obtain ⟨A, cA, hb, ho⟩ := HI.out.box
      obtain ⟨g, rfl, hk1, hk2⟩ := (HN.out _ HBW.out).kcell (i := i) (by show i < (its.map _).length; rw [List.length_map]; exact h)
      have c2 := fun W (hW : Below w0.heap.size w0 W) => (HT.out W hW).cells.2.2.2.1
      have hkk : (nf its cs).ks[i]'(by show i < (its.map _).length; rw [List.length_map]; exact h) = (its[i]).1 := by simp [nf]
      rw [hkk] at hk1
      have c3 := c2 wr HBW.out
      have b1 := blk_cell hb 2
      have b2 := blk_frozen hb 2
      simp only [List.getElem?_toArray, List.getElem?_cons_succ, List.getElem?_cons_zero] at b1
      have HBK := Lib.hid hb
      have HOW := Lib.hid ho
      have HHK := Lib.hid (own_same (its[i]).1 wr.drew)
      have HC2 := Lib.hid c2
      obtain ⟨i0, hi0, hz0, hz1, hz2⟩ := info_parts infoBS
      have hBl := blk_lt hb
      have HBN := Lib.hid (show (Value.slice A i cA).ownBlock ≠ some B from fun e => by
        obtain ⟨cs', hc'⟩ := ownsRow_is ho e
        exact blk_ne hc' hb (by decide) rfl)
      clear c2 hb ho hkk
      generalize hkey : (its[i]).1 = key at hk1 HHK
      have HKE := Lib.hid hkey
      clear hkey
      unfold kv at hk1 HHK
      go_wp2_with fail
      go_region_law (first
        | (go_simp; go_at_call 51; refine HHK.out.mono ?_; rintro e w1 ⟨rfl, e2⟩; have HW1 := Lib.hid e2; have hb1 : Below wr.heap.size wr w1 := (by rw [e2]; exact (Below.refl _ _).drew); clear e2; have HB1 := Lib.hid hb1; clear hb1; have d1 : w1.cell? ⟨B, 2, none⟩ = some (.slice A i cA) := (by rw [HW1.out]; exact b1); have HB2 := Lib.hid (HB1.out.alloc HB1.out.size (.cells #[.string key] 9)); have d2 := (blk_cell ((HB2.out.block B hBl).trans HBK.out) 2); simp only [List.getElem?_toArray, List.getElem?_cons_succ, List.getElem?_cons_zero] at d2)
        | (refine step_append_lies _ rfl (.tmp 32) (.tmp 39) 34 rfl B 9 i0 (.string ⟨#[]⟩) 1 16 Try.underlying34 hi0 hz0 hz1 hz2 rfl (by decide) (.slice A i cA) i (ksR ((its.map (·.1)).take i)) (by simp [Act.eval]) (ownsRow_keep HOW.out fun g hg hl => HB2.out.block g hl) _ 1 1 [.string key] (by simp [Act.eval]) rfl (World.news_of_block (top_blk _ _ _)) (by simp [Value.oneCell']) (by decide) (by simp only [maxLen]; omega) (by omega) (by have := HB2.out.size; omega) _ rfl ?_; intro g7 cap7 w7 hown hgrow hat hlt7; have hp7 := (hgrow.block B (Nat.lt_of_lt_of_le hBl HB2.out.size) (fun e => HBN.out e.symm)).trans ((HB2.out.block B hBl).trans HBK.out); have e75 := blk_cell hp7 2; have e76 := blk_frozen hp7 2; simp only [List.getElem?_toArray, List.getElem?_cons_succ, List.getElem?_cons_zero] at e75; have HOW7 := Lib.hid hown; have HGR7 := Lib.hid hgrow; have HP7 := Lib.hid hp7; clear hp7 hown hgrow hat))
      all_goals
        go_wp2_with fail
        go_roundw
        case measure => simp [intOf]; omega
        case rel =>
          have hown : (w7.setCell ⟨B, 2, none⟩ (.slice (some ⟨g7, 0, none⟩) (i + 1) cap7)).ownsRow B 9 1 (.slice (some ⟨g7, 0, none⟩) (i + 1) cap7) (i + 1) (ksR ((its.map (·.1)).take (i + 1))) := by
            have e : ksR ((its.map (·.1)).take (i + 1)) = ksR ((its.map (·.1)).take i) ++ [.string key] := by
              rw [List.take_add_one, List.getElem?_map, List.getElem?_eq_getElem h]
              simp [ksR, kv, HKE.out]
            rw [e]
            refine ownsRow_keep HOW7.out fun g' hg' _ => Below.heap_setCell w7 ⟨B, 2, none⟩ _ g' fun e2 => ?_
            obtain ⟨cs', hc'⟩ := ownsRow_is HOW7.out hg'
            exact blk_ne hc' HP7.out (by decide) e2
          refine ⟨i + 1, by omega, by simp, Lib.hid ⟨⟨_, _, blk_set HP7.out 2 _, hown⟩, ?_⟩⟩
          have hb2 : Below B wr w7 := by
            have h1 := HB2.out
            refine ⟨HGR7.out.os.trans h1.os, HGR7.out.tape.trans h1.tape, HGR7.out.output.trans h1.output, Nat.le_trans h1.size HGR7.out.size, fun b hb => (HGR7.out.block b (by have := h1.size; omega) (fun e => ?_)).trans (h1.block b (by omega))⟩
            have := (World.ownsRow.lt HOW.out b e.symm).1
            omega
          exact HI.out.bl.trans (hb2.trans ⟨rfl, rfl, rfl, by simp [World.setCell], fun b hb => Below.heap_setCell w7 ⟨B, 2, none⟩ _ b (by show b ≠ B; omega)⟩)
    · have e1 : i = its.length := by omega
      subst e1
      obtain ⟨A, cA, hb, ho⟩ := HI.out.box
      have hBl := blk_lt hb
      have b0 := blk_cell hb 0
      have b1 := blk_cell hb 1
      have b2 := blk_cell hb 2
      simp only [List.getElem?_toArray, List.getElem?_cons_succ, List.getElem?_cons_zero] at b0 b1 b2
      obtain ⟨i0, hi0, hz0, hz1, hz2⟩ := info_parts infoNode
      have hbw : Below w.heap.size w wr := HI.out.bl.mono (by have := HBE.out; omega)
      have hba : Below wr.heap.size wr (wr.alloc (.cells #[.int .i64 lv, .bool lf, .slice A its.length cA] 36)) := (Below.refl _ _).alloc (Nat.le_refl _) _
      have hOw : (wr.alloc (.cells #[.int .i64 lv, .bool lf, .slice A its.length cA] 36)).ownsRow w0.heap.size 36 3 v l.length (ntR l) := ownsRow_keep HO.out.own fun g _ hl => (hba.block g (Nat.lt_of_lt_of_le hl hbw.size)).trans (hbw.block g hl)
      obtain ⟨g7, cap7, w7, hrun, hown, hgrow, hat, hlt7⟩ := run_append_lies (P := Try.prog) _ 29 29 w0.heap.size 36 i0 _ 3 40 Try.underlying29 hi0 hz0 hz1 hz2 rfl (by decide) v l.length (ntR l) hOw ⟨wr.heap.size, 0, none⟩ 1 1 [.int .i64 lv, .bool lf, .slice A its.length cA] rfl (World.news_of_block (top_blk _ _ _)) (by simp [Value.oneCell']) (by decide) (by simp only [maxLen]; have := HLB.out; omega) (by have := HLB.out; omega) (by have := HB.out.size; have := hbw.size; have := hba.size; omega) _ rfl
      have hNs := HO.out.grow (x := ⟨lv, lf, its.map (·.1)⟩) (u := .slice A its.length cA) (hbw.trans (hba.mono hbw.size)) hgrow hown ((Rw.of_own (by rw [List.take_of_length_le (by rw [List.length_map]; exact Nat.le_refl _)] at ho; exact ho) : Rw wr 9 _ _).keep fun g _ hl => hba.block g hl) (fun g hg => by
        have := (World.ownsRow.lt ho g hg).1
        have := HBE.out
        have := HB.out.size
        omega)
      have hB7 : Below w0.heap.size w0 w7 := HB.out.trans (((hbw.trans (hba.mono hbw.size)).mono HB.out.size).trans ⟨hgrow.os, hgrow.tape, hgrow.output, hgrow.size, fun b hb => hgrow.block b (by have := HB.out.size; have := hbw.size; have := hba.size; omega) (fun e => by
        have := (World.ownsRow.lt HO.out.own b e.symm).1
        omega)⟩)
      have HRUN := Lib.hid hrun
      have HNS := Lib.hid hNs
      have HB7 := Lib.hid hB7
      have d7 := (HN.out w7 hB7).cells.2.2
      clear hrun hown hgrow hat hlt7 hNs hB7 hOw hba hbw hb ho hBl hi0 hz0 hz1 hz2 h hi
      go_wp2_with (at_builtin; refine Lib.wpList_append_run _ rfl _ _ _ _ rfl _ _ rfl rfl _ _ HRUN.out ?_)
      clear HBW HI b0 b1 b2 HRUN
      have HV0 : Hid (∃ l', NsO w7 w0.heap.size (.slice (some ⟨g7, 0, none⟩) (l.length + 1) cap7) l' ∧ l'.map (·.1) = l.map (·.1) ++ ⟨lv, lf, its.map (·.1)⟩ :: upto L2 0) := Lib.hid ⟨_, HNS.out, by simp [upto]⟩
      clear HNS
      go_loopw [1, 52] (fun t1 t52 wr => ∃ i : Nat, i ≤ cs.length ∧ t52 = .int .i64 i ∧ Hid (Below w0.heap.size w0 wr) ∧ Hid (∃ l', NsO wr w0.heap.size t1 l' ∧ l'.map (·.1) = l.map (·.1) ++ ⟨lv, lf, its.map (·.1)⟩ :: upto L2 i)) (fun _ t52 _ => cs.length - (intOf t52).toNat)
      case atStart => exact ⟨0, Nat.zero_le _, rfl, HB7, HV0⟩
      case round =>
        obtain ⟨i, hi, rfl, HBI, HVI⟩ := hrel
        by_cases h : i < cs.length
        · have hi1 : (i : Int) < (cs.length : Int) := by omega
          obtain ⟨gc, rfl, hk1, hk2⟩ := (HN.out _ HBI.out).ccell (i := i) (by show i < cs.length; exact h)
          have hkk : (nf its cs).cs[i]'(by show i < cs.length; exact h) = cs[i] := rfl
          rw [hkk] at hk1
          obtain ⟨l', hl1, hl2⟩ := HVI.out
          have hlen : l'.length = l.length + 1 + (upto L2 i).length := by
            have := congrArg List.length hl2
            simp at this
            omega
          have hu1 := upto_le L2 (show i + 1 ≤ cs.length from h)
          have hu2 := congrArg List.length (upto_succ L2 i)
          rw [List.length_append] at hu2
          have HC := Lib.hid (HIH.out i h _ _ l' HBI.out hl1 (by have := HLB.out; omega))
          have HL2 := Lib.hid hl2
          clear hkk hl1 hl2 hlen hu1 hu2
          unfold nv at hk1
          go_wp2_with (go_at_call 48; refine HC.out.mono ?_; rintro e w2 ⟨v2, l2, rfl, hN2, hm2, hB2⟩)
          go_roundw
          case measure => simp [intOf]; omega
          case rel => exact ⟨i + 1, by omega, by simp, Lib.hid hB2, Lib.hid ⟨l2, hN2, by rw [hm2, HL2.out, upto_succ]; simp⟩⟩
        · have e2 : i = cs.length := by omega
          subst e2
          go_wp2_with fail
          go_ret
          obtain ⟨l', hl1, hl2⟩ := HVI.out
          exact ⟨_, l', rfl, hl1, hl2, HBI.out⟩
/-- Any tree's nodes. -/
theorem nodes_any (p m sz q : Nat) (hm : 2 ≤ m ∧ m ≤ 1000) (w0 : World) (o : Nat → Nat) (M : Nat → Option (Nf Ky)) (ht : TrAt w0 o p m sz q) (hg : Gm w0 o M) : ∀ (h : Nat) (t : BT Ky h) (lo hi : Nat), Tr M h t → OkT m h lo hi t → hi ≤ 1000 → ∀ (lv : Nat), lv + h ≤ 1000000 → ∀ (w : World) (v : Value) (l : List (Nt × Value)), Below w0.heap.size w0 w → NsO w w0.heap.size v l → l.length + (ids h t).length ≤ 1000000000 →
    Calls Try.prog 48 #[nv p, v, nv t.id, .int .i64 lv] w (NodesP w0 l (nodesL h t lv))
  | 0, t, lo, hi, hT, hok, hhi, lv, hlv, w, v, l, hB, hO, hl => by
    have := nodes_node p m sz q t.id t.its [] w0 w o ht (hg _ _ hT) (by have := hok.2; omega) (by simp) true rfl lv (by omega) (fun _ => []) (fun j hj => by simp at hj) hB v l hO (by simpa [upto, ids] using hl)
    exact this
  | h + 1, t, lo, hi, hT, hok, hhi, lv, hlv, w, v, l, hB, hO, hl => by
    have hkl : t.kds.length = t.its.length + 1 := hok.2.1
    have hcl : (t.kds.map Nd.id).length = t.kds.length := List.length_map _
    have hil : t.its.length ≤ hi := hok.1.2
    have hU : upto (fun j => match t.kds[j]? with | some c => nodesL h c (lv + 1) | none => []) t.kds.length = t.kds.flatMap (fun c => nodesL h c (lv + 1)) := by
      have gen : ∀ (L : List (BT Ky h)) (n : Nat), n ≤ L.length → upto (fun j => match L[j]? with | some c => nodesL h c (lv + 1) | none => []) n = (L.take n).flatMap (fun c => nodesL h c (lv + 1)) := fun L n => by
        induction n with
        | zero => intro _; rfl
        | succ n ih =>
          intro hn
          rw [upto_succ, ih (by omega), List.take_add_one, List.getElem?_eq_getElem (by omega), List.flatMap_append]
          simp
      rw [gen _ _ (Nat.le_refl _), List.take_length]
    have hsub : ∀ c ∈ t.kds, (ids h c).length + 1 ≤ (ids (h + 1) t).length := fun c hc => by
      show (ids h c).length + 1 ≤ (t.kds.flatMap (ids h)).length + 1
      obtain ⟨s1, s2, e⟩ := List.append_of_mem hc
      rw [e, List.flatMap_append, List.flatMap_cons]
      simp
      omega
    have hlenU : (t.kds.flatMap (fun c => nodesL h c (lv + 1))).length + 1 = (ids (h + 1) t).length := nodesL_len (h + 1) t lv
    have := nodes_node p m sz q t.id t.its (t.kds.map Nd.id) w0 w o ht (hg _ _ hT.1) (by omega) (by omega) false (by rw [hcl, hkl]; simp) lv (by omega) (fun j => match t.kds[j]? with | some c => nodesL h c (lv + 1) | none => []) (fun j hj w v l hB hO hl => by
      have hj2 : j < t.kds.length := by omega
      have hc : t.kds[j] ∈ t.kds := List.getElem_mem _
      simp only [List.getElem?_eq_getElem hj2, List.getElem_map] at hl ⊢
      refine nodes_any p m sz q hm w0 o M ht hg h t.kds[j] (m / 2) m (hT.2 _ hc) (hok.2.2 _ hc) hm.2 (lv + 1) (by omega) w v l hB hO ?_
      rw [nodesL_len] at hl
      exact hl) hB v l hO (by rw [hcl, hU]; omega)
    rw [hcl, hU] at this
    exact this
theorem weave_len {β : Type} : ∀ (I : List β) (C : List (List β)), C.length = I.length + 1 → (weave I C).length = I.length + (C.map List.length).sum
  | [], [], h => by simp at h
  | [], [c], _ => by simp [weave]
  | [], _ :: _ :: _, h => by simp at h
  | _ :: _, [], h => by simp at h
  | a :: I, c :: C, h => by
    have := weave_len I C (by simpa using h)
    show (c ++ a :: weave I C).length = _
    rw [List.length_append, List.length_cons, this]
    simp
    omega
theorem sum_le {α : Type} {f g : α → Nat} : ∀ (l : List α), (∀ c ∈ l, f c ≤ g c) → (l.map f).sum ≤ (l.map g).sum
  | [], _ => Nat.le_refl _
  | a :: l, h => by
    have := sum_le l (fun c hc => h c (List.mem_cons_of_mem _ hc))
    have := h a List.mem_cons_self
    simp
    omega
theorem toL_len {m h lo hi : Nat} {t : BT Ky (h + 1)} (ho : OkT m (h + 1) lo hi t) : (toL (h + 1) t).length = t.its.length + (t.kds.map fun c => (toL h c).length).sum := by
  show (weave t.its (List.map (toL h) t.kds)).length = _
  rw [weave_len _ _ (by rw [List.length_map]; exact ho.kids), List.map_map]
  rfl
theorem ids_len {h : Nat} (t : BT Ky (h + 1)) : (ids (h + 1) t).length = 1 + (t.kds.map fun c => (ids h c).length).sum := by
  show (t.id :: t.kds.flatMap (ids h)).length = _
  rw [List.length_cons, List.length_flatMap]
  omega
theorem ids_le {m : Nat} (hm : 2 ≤ m) : ∀ {h lo hi : Nat} {t : BT Ky h}, OkT m h lo hi t → (ids h t).length ≤ (toL h t).length + 1 ∧ (1 ≤ lo → (ids h t).length ≤ (toL h t).length) ∧ h + 1 ≤ (ids h t).length
  | 0, lo, hi, t, ho => by
    have h1 := ho.1
    show 1 ≤ t.its.length + 1 ∧ (1 ≤ lo → 1 ≤ t.its.length) ∧ 1 ≤ 1
    omega
  | h + 1, lo, hi, t, ho => by
    have hs := sum_le t.kds (f := fun c => (ids h c).length) (g := fun c => (toL h c).length) (fun c hc => (ids_le hm (ho.2.2 c hc)).2.1 (by omega))
    rw [toL_len ho, ids_len]
    have hk : t.kds.length = t.its.length + 1 := ho.2.1
    have hlo := ho.1.1
    refine ⟨by omega, fun h1 => by omega, ?_⟩
    obtain ⟨c, L, e⟩ : ∃ c L, t.kds = c :: L := by
      cases hh : t.kds with
      | nil => rw [hh] at hk; simp at hk
      | cons c L => exact ⟨c, L, rfl⟩
    have hc := (ids_le hm (ho.2.2 c (by rw [e]; exact List.mem_cons_self))).2.2
    rw [e]
    simp
    omega
/-- What Nodes tells. -/
def nodesT (h : Nat) (t : BT Ky h) : List Nt := if (toL h t).length = 0 then [] else nodesL h t 0
set_option maxRecDepth 100000 in
theorem Nodes_any (base p m h : Nat) (t : BT Ky h) (w : World) (o : Nat → Nat) (M : Nat → Option (Nf Ky)) (b : Bm base w o p m h t M) (hm : 3 ≤ m ∧ m ≤ 64) (hlen : (toL h t).length ≤ 65536) :
    Calls Try.prog 17 #[nv p] w (NodesP w [] (nodesT h t)) := by
  have HGD := Lib.hid (good_any p m _ _ w o b.at_)
  obtain ⟨h1, h2, h3⟩ := ids_le (by omega) b.tm.ok
  have HND := Lib.hid (nodes_any p m _ t.id (by omega) w o M b.at_ b.tm.gm h t _ _ b.tm.tr b.tm.ok b.tm.le 0 (by omega) w _ _ (Below.refl _ _) (NsO.nil w w.heap.size) (by simp; omega))
  obtain ⟨-, p1, -, -, p4⟩ := b.at_.cells
  by_cases hz : (toL h t).length = 0
  · have e : nodesT h t = [] := if_pos hz
    rw [hz] at p1
    have HF := Lib.hid (show NodesP w [] (nodesT h t) (.returned (.slice none 0 0)) w from ⟨_, [], rfl, NsO.nil _ _, by rw [e]; rfl, Below.refl _ _⟩)
    clear b e hz hlen h1 h2 h3
    unfold nv at *
    go_enter Try.func17, Try.ntmps17
    go_wp2_with (go_at_call 47; refine HGD.out.mono ?_; rintro e w' ⟨rfl, e2⟩; rw [e2]; clear e2 w')
    go_ret
    exact HF.out
  · have e : nodesT h t = nodesL h t 0 := if_neg hz
    rw [e]
    have hz2 : ¬ (((toL h t).length : Int) = 0) := by omega
    have hz3 : (((toL h t).length : Int) == 0) = false := beq_eq_false_iff_ne.2 hz2
    generalize (toL h t).length = sz at p1 hz hz2 hz3 HGD hlen HND
    clear b e h1 h2 h3
    unfold nv at *
    go_enter Try.func17, Try.ntmps17
    go_wp2_with (first | (go_at_call 47; refine HGD.out.mono ?_; rintro e w' ⟨rfl, e2⟩; rw [e2]; clear e2 w') | (go_at_call 48; refine HND.out.mono ?_; rintro e w2 ⟨v2, l2, rfl, hN2, hm2, hB2⟩))
    go_ret
    exact ⟨_, _, rfl, hN2, hm2, hB2⟩
end Go.Proofs.Ytfhonfeopkhdeaa.BS
