/-
  Keys of a tree of coordinates: all of them in order, each lying anew, in a row of one's own. No premise.
-/
import Derived.Test.YtfhonfeopkhdeaaBtCt
namespace Go.Proofs.Ytfhonfeopkhdeaa.BC
open Go.RowKit Go.Proofs.YtfhonfeopkhdeaaW.PrintWords

/-- The boxes while the keys are laid: b has the row, tb the tree. -/
structure KyI (w0 : World) (b tb p : Nat) (L : List (List Int)) (w : World) : Prop where
  out : ∃ A c, ∃ K : List Ky, K.map (·.l) = L ∧ w.heap[b]? = some (.cells #[.slice A L.length c] 69 (0, 0)) ∧ w.ownsRow w0.heap.size 22 1 (.slice A L.length c) L.length (ksR K) ∧ ∀ k ∈ K, Fk w0.heap.size w k
  tr : w.heap[tb]? = some (.cells #[nv p] 66 (0, 0))
  hb : w0.heap.size ≤ b
  bl : Below w0.heap.size w0 w
set_option maxRecDepth 100000 in
set_option maxHeartbeats 2000000 in
theorem keys1_any (p m sz q b tb : Nat) (w0 w : World) (o : Nat → Nat) (ht : TrAt w0 o p m sz q) (L : List (List Int)) (HI : Hid (KyI w0 b tb p L w)) (hl : L.length + 1 ≤ 1000000000) (key : Ky) (hkey : KRd w key) :
    Calls Try.prog 70 #[kv key, .pointer (some ⟨b, 0, none⟩), .pointer (some ⟨tb, 0, none⟩)] w fun e w' => e = .returned (.tuple #[]) ∧ KyI w0 b tb p (L ++ [key.l]) w' := by
  have c2 := fun W (hW : Below w0.heap.size w0 W) => ((⟨(hW.block p (blk_lt ht.blk)).trans ht.blk, ht.tg⟩ : TrAt W o p m sz q)).cells.2.2.2.1
  obtain ⟨A, cA, K, hKL, hb, ho, hF⟩ := HI.out.out
  have c3 := c2 w HI.out.bl
  have b1 := blk_cell hb 0
  have b2 := blk_frozen hb 0
  have t1 := blk_cell HI.out.tr 0
  simp only [List.getElem?_toArray, List.getElem?_cons_zero] at b1 t1
  have HBK := Lib.hid hb
  have HOW := Lib.hid ho
  have HFK := Lib.hid hF
  have HKL := Lib.hid hKL
  have HHK := Lib.hid (kown_rw key w.drew (hkey.drewN 1))
  obtain ⟨i0, hi0, hz0, hz1, hz2⟩ := info_parts infoBC
  have hBl := blk_lt hb
  have HBN := Lib.hid (show (Value.slice A L.length cA).ownBlock ≠ some b from fun e => by
    obtain ⟨cs', hc'⟩ := ownsRow_is ho e
    exact blk_ne hc' hb (by decide) rfl)
  have HSZ := Lib.hid HI.out.bl.size
  clear c2 hb ho ht hF hKL hkey
  unfold kv at HHK ⊢
  unfold nv at t1
  go_enter Try.func70, Try.ntmps70
  go_wp2_with fail
  go_region_law (first
    | (go_simp; go_at_call 61; refine HHK.out.mono ?_; rintro e w1 ⟨A1, c1, rfl, hf1, e2⟩; have HF1 := Lib.hid hf1; have hb1 : Below w.heap.size w w1 := ((Below.refl w.heap.size w).drew).trans e2; clear e2 hf1; have HB1 := Lib.hid hb1; clear hb1; have d1 : w1.cell? ⟨b, 0, none⟩ = some (.slice A L.length cA) := (by rw [blk_cell ((HB1.out.block b hBl).trans HBK.out)]; rfl); have HB2 := Lib.hid (HB1.out.alloc HB1.out.size (.cells #[.slice A1 key.l.length c1] 22)); have HFA := Lib.hid (HF1.out.below ((Below.refl w1.heap.size w1).alloc (Nat.le_refl _) (.cells #[.slice A1 key.l.length c1] 22))); have d2 := (blk_cell ((HB2.out.block b hBl).trans HBK.out) 0); simp only [List.getElem?_toArray, List.getElem?_cons_zero] at d2)
    | (refine step_append_lies _ rfl (.tmp 4) (.tmp 11) 69 rfl w0.heap.size 22 i0 (.slice none 0 0) 1 24 Try.underlying69 hi0 hz0 hz1 hz2 rfl (by decide) (.slice A L.length cA) L.length (ksR K) (by simp [Act.eval]) (ownsRow_keep HOW.out fun g hg hl => HB2.out.block g hl) _ 1 1 [.slice A1 key.l.length c1] (by simp [Act.eval]) rfl (World.news_of_block (top_blk _ _ _)) (by simp [Value.oneCell']) (by decide) (by simp only [maxLen]; omega) (by omega) (by have := HB2.out.size; have := HSZ.out; omega) _ rfl ?_; intro g7 cap7 w7 hown hgrow hat hlt7; have hp7 := (hgrow.block b (Nat.lt_of_lt_of_le hBl HB2.out.size) (fun e => HBN.out e.symm)).trans ((HB2.out.block b hBl).trans HBK.out); have e75 := blk_cell hp7 0; have e76 := blk_frozen hp7 0; simp only [List.getElem?_toArray, List.getElem?_cons_zero] at e75; have HOW7 := Lib.hid hown; have HGR7 := Lib.hid hgrow; have HP7 := Lib.hid hp7; clear hp7 hown hgrow hat))
  all_goals
    go_wp2_with fail
    go_end0
    have hrow : ∀ g, (Value.slice A L.length cA).ownBlock = some g → ∃ cs, w.heap[g]? = some (.cells cs 22 (0, 0)) := fun g hg => ownsRow_is HOW.out hg
    have hkp : ∀ {B : Nat} {v : Value}, ∀ k, Fk B w7 k → Fk B (w7.setCell ⟨b, 0, none⟩ v) k := fun k hf => hf.keep (Nat.le_refl _) fun g cur hg _ => Below.heap_setCell w7 ⟨b, 0, none⟩ _ g (blk_ne hg HP7.out (by decide))
    have hgr : ∀ {B : Nat} (V : World), Below w.heap.size w V → V.grownBy w7 (Value.slice A L.length cA).ownBlock → ∀ k, Fk B V k → Fk B w7 k := fun V hV hg k hf => hf.keep (Nat.le_refl _) fun g cur hc _ => hg.block g (Array.getElem?_eq_some_iff.1 hc).1 fun e => by
      obtain ⟨cs, h1⟩ := hrow g e.symm
      have h2 := (hV.block g (Array.getElem?_eq_some_iff.1 h1).1).trans h1
      exact blk_ne hc h2 (by decide) rfl
    refine ⟨rfl, ?_, ?_, HI.out.hb, ?_⟩
    · have e : ksR (K ++ [⟨A1, key.l, c1⟩]) = ksR K ++ [.slice A1 key.l.length c1] := by simp [ksR, kv]
      rw [List.length_append]
      refine ⟨_, _, K ++ [⟨A1, key.l, c1⟩], by rw [List.map_append, HKL.out]; rfl, blk_set HP7.out 0 _, ?_, fun k hk => ?_⟩
      · rw [e]
        exact ownsRow_keep HOW7.out fun g' hg' _ => Below.heap_setCell w7 ⟨b, 0, none⟩ _ g' fun e2 => by
          obtain ⟨cs', hc'⟩ := ownsRow_is HOW7.out hg'
          exact blk_ne hc' HP7.out (by decide) e2
      · refine hkp k (hgr _ HB2.out HGR7.out k ?_)
        rcases List.mem_append.1 hk with hk | hk
        · exact (HFK.out k hk).below HB2.out
        · rw [List.mem_singleton.1 hk]
          exact HFA.out.keep HI.out.bl.size fun _ _ _ _ => rfl
    · have h1 := (HGR7.out.block tb (Nat.lt_of_lt_of_le (blk_lt HI.out.tr) HB2.out.size) (fun e => by
        obtain ⟨cs', hc'⟩ := ownsRow_is HOW.out e.symm
        exact blk_ne hc' HI.out.tr (by decide) rfl)).trans ((HB2.out.block tb (blk_lt HI.out.tr)).trans HI.out.tr)
      exact (Below.heap_setCell w7 ⟨b, 0, none⟩ _ tb (blk_ne h1 HP7.out (by decide))).trans h1
    · have hb2 : Below w0.heap.size w w7 := by
        have h1 := HB2.out
        refine ⟨HGR7.out.os.trans h1.os, HGR7.out.tape.trans h1.tape, HGR7.out.output.trans h1.output, Nat.le_trans h1.size HGR7.out.size, fun c hc => (HGR7.out.block c (by have := h1.size; have := HSZ.out; omega) (fun e => ?_)).trans (h1.block c (by have := HSZ.out; omega))⟩
        have := (World.ownsRow.lt HOW.out c e.symm).1
        omega
      exact HI.out.bl.trans (hb2.trans ⟨rfl, rfl, rfl, by simp [World.setCell], fun c hc => Below.heap_setCell w7 ⟨b, 0, none⟩ _ c (by show c ≠ b; have := HI.out.hb; omega)⟩)
section
variable {α : Type}
/-- What the rounds over a node have laid. -/
def laidK (L2 : Nat → List α) (ks : List α) (i : Nat) : List α := (List.range i).flatMap fun j => L2 j ++ ks[j]?.toList
theorem laidK_succ (L2 : Nat → List α) (ks : List α) (i : Nat) : laidK L2 ks (i + 1) = laidK L2 ks i ++ (L2 i ++ ks[i]?.toList) := by unfold laidK; rw [List.range_succ, List.flatMap_append]; simp
theorem laidK_le (L2 : Nat → List α) (ks : List α) {i n : Nat} (h : i ≤ n) : (laidK L2 ks i).length ≤ (laidK L2 ks n).length := by
  induction n with
  | zero => rw [Nat.le_zero.1 h]; exact Nat.le_refl _
  | succ n ih =>
    rcases Nat.lt_or_eq_of_le h with h | rfl
    · rw [laidK_succ, List.length_append]; have := ih (by omega); omega
    · exact Nat.le_refl _
theorem laidK_cons (L2 : Nat → List α) (k : α) (ks : List α) (i : Nat) : laidK L2 (k :: ks) (i + 1) = (L2 0 ++ [k]) ++ laidK (fun j => L2 (j + 1)) ks i := by
  unfold laidK
  rw [List.range_succ_eq_map, List.flatMap_cons, List.flatMap_map]
  rfl
theorem laidK_nil (L2 : Nat → List α) : ∀ (ks : List α), (∀ j, L2 j = []) → laidK L2 ks (ks.length + 1) = ks
  | [], h => by simp [laidK, h]
  | k :: ks, h => by
    rw [List.length_cons, laidK_cons, laidK_nil _ ks (fun j => h (j + 1)), h 0]
    rfl
/-- What a child has. -/
def kidAt {β : Type} (f : List β → List α) (C : List (List β)) (j : Nat) : List α := match C[j]? with
  | some c => f c
  | none => []
theorem laidK_weave {β : Type} (g : β → α) (f : List β → List α) (hf : f = fun l => l.map g) : ∀ (I : List β) (C : List (List β)), C.length = I.length + 1 → laidK (kidAt f C) (I.map g) (I.length + 1) = f (weave I C)
  | [], [], h => by simp at h
  | [], [c], _ => by simp [laidK, weave, kidAt]
  | [], _ :: _ :: _, h => by simp at h
  | _ :: _, [], h => by simp at h
  | a :: I, c :: C, h => by
    have ih := laidK_weave g f hf I C (by simpa using h)
    rw [List.map_cons, List.length_cons, laidK_cons]
    have e : (fun j => kidAt f (c :: C) (j + 1)) = kidAt f C := by
      funext j
      unfold kidAt
      rw [List.getElem?_cons_succ]
    rw [e, ih]
    show kidAt f (c :: C) 0 ++ [g a] ++ f (weave I C) = f (c ++ a :: weave I C)
    have e0 : kidAt f (c :: C) 0 = f c := rfl
    rw [e0, hf]
    simp
end
abbrev cloK (b tb : Nat) : Value := .func (.func 70) #[] #[.pointer (some ⟨b, 0, none⟩), .pointer (some ⟨tb, 0, none⟩)]
set_option maxRecDepth 100000 in
set_option maxHeartbeats 2000000 in
theorem each_node (p m sz q b tb : Nat) (n : Nat) (its : List (Ky × Int)) (cs : List Nat) (w0 w : World) (o : Nat → Nat) (ht : TrAt w0 o p m sz q) (hN : NdE w0 o n (nf its cs)) (hits : its.length ≤ 1000) (hcs : cs.length = 0 ∨ cs.length = its.length + 1) (L2 : Nat → List (List Int)) (hL2 : cs.length = 0 → ∀ j, L2 j = [])
    (IH : ∀ j (hj : j < cs.length) (w : World) (L : List (List Int)), KyI w0 b tb p L w → L.length + (L2 j).length ≤ 1000000000 → Calls Try.prog 69 #[nv cs[j], cloK b tb] w fun e w' => e = .returned (.tuple #[]) ∧ KyI w0 b tb p (L ++ L2 j) w')
    (L : List (List Int)) (hI : KyI w0 b tb p L w) (hl : L.length + (laidK L2 (its.map (·.1.l)) (its.length + 1)).length ≤ 1000000000) :
    Calls Try.prog 69 #[nv n, cloK b tb] w fun e w' => e = .returned (.tuple #[]) ∧ KyI w0 b tb p (L ++ laidK L2 (its.map (·.1.l)) (its.length + 1)) w' := by
  obtain ⟨vk, vv, vc, hn⟩ := hN
  obtain ⟨A1, c1, A2, c2, A3, c3, rfl, rfl, rfl, q1, q2, q3⟩ := hn.row
  have hkl : (nf its cs).ks.length = its.length := List.length_map _
  have hcl : (nf its cs).cs.length = cs.length := rfl
  have HN := Lib.hid (fun W (hW : Below w0.heap.size w0 W) => hn.keep (w' := W) (o' := o) fun b hb _ => ⟨hW.block b hb, rfl⟩)
  rw [hkl, hcl] at HN
  rw [hkl] at q1
  rw [hcl] at q3
  obtain ⟨d0, -, -⟩ := (HN.out w hI.bl).cells
  have HIH := Lib.hid IH
  have HLB := Lib.hid hl
  have HI := Lib.hid hI
  have HTR := Lib.hid ht
  have HL2 := Lib.hid hL2
  have HCS := Lib.hid hcs
  have hc0 : (cs.length : Int) ≤ 1001 := by omega
  clear hn IH hkl hcl q2 hl hI ht hL2 hcs
  generalize (nf its cs).vs.length = nv2 at HN
  unfold nv at *
  unfold cloK
  go_enter Try.func69, Try.ntmps69
  go_wp2_with fail
  go_loopw [11] (fun t11 wr => ∃ i : Nat, i ≤ its.length + 1 ∧ t11 = .int .i64 i ∧ Hid (KyI w0 b tb p (L ++ laidK L2 (its.map (·.1.l)) i) wr)) (fun t11 _ => its.length + 1 - (intOf t11).toNat)
  case atStart => exact ⟨0, Nat.zero_le _, rfl, Lib.hid (by simpa [laidK] using HI.out)⟩
  case round =>
    obtain ⟨i, hi, rfl, HK⟩ := hrel
    obtain ⟨e0, -, e2⟩ := (HN.out _ HK.out.bl).cells
    by_cases h : i < its.length + 1
    · have hi1 : (i : Int) < (its.length : Int) + 1 := by omega
      have hu1 := laidK_le L2 (its.map (·.1.l)) (show i + 1 ≤ its.length + 1 from h)
      have hu2 := congrArg List.length (laidK_succ L2 (its.map (·.1.l)) i)
      rw [List.length_append, List.length_append] at hu2
      have hlb := HLB.out
      have HW2 : Hid (∀ w2, KyI w0 b tb p (L ++ laidK L2 (its.map (·.1.l)) i ++ L2 i) w2 → w2.cell? ⟨n, 0, none⟩ = some (.slice A1 its.length c1) ∧ (i < its.length → ∃ g, A1 = some ⟨g, 0, none⟩ ∧ ∃ key : Ky, w2.cell? ⟨g, i, none⟩ = some (.slice key.A key.l.length key.c) ∧ Calls Try.prog 70 #[.slice key.A key.l.length key.c, .pointer (some ⟨b, 0, none⟩), .pointer (some ⟨tb, 0, none⟩)] w2 fun e w' => e = .returned (.tuple #[]) ∧ KyI w0 b tb p (L ++ laidK L2 (its.map (·.1.l)) (i + 1)) w')) := Lib.hid fun w2 h2 => by
        refine ⟨(HN.out _ h2.bl).cells.1, fun hlt => ?_⟩
        obtain ⟨g, hg, hk1, -⟩ := (HN.out _ h2.bl).kcell (i := i) (by show i < (its.map _).length; rw [List.length_map]; exact hlt)
        have hkr : KRd w2 its[i].1 := ((HN.out _ h2.bl).ok _ (by
          show its[i].1 ∈ its.map (·.1)
          exact List.mem_map_of_mem (List.getElem_mem hlt))).rd
        refine ⟨g, hg, its[i].1, ?_, ?_⟩
        · have hkk : (nf its cs).ks[i]'(by show i < (its.map _).length; rw [List.length_map]; exact hlt) = (its[i]).1 := by simp [nf]
          rw [hkk] at hk1
          exact hk1
        · have e : L ++ laidK L2 (its.map (·.1.l)) (i + 1) = L ++ laidK L2 (its.map (·.1.l)) i ++ L2 i ++ [its[i].1.l] := by
            rw [laidK_succ, List.getElem?_map, List.getElem?_eq_getElem hlt]
            simp
          rw [e]
          have h1 : ((its.map (·.1.l))[i]?.toList).length = 1 := by rw [List.getElem?_map, List.getElem?_eq_getElem hlt]; rfl
          exact keys1_any p m sz q b tb w0 w2 o HTR.out _ (Lib.hid h2) (by rw [List.length_append, List.length_append]; omega) _ hkr
      have HEND : Hid (i = its.length → L ++ laidK L2 (its.map (·.1.l)) (i + 1) = L ++ laidK L2 (its.map (·.1.l)) i ++ L2 i) := Lib.hid fun e => by
        rw [laidK_succ, List.getElem?_eq_none (by rw [List.length_map]; omega)]
        simp
      by_cases hz : cs.length = 0
      · have hz1 : decide ((0 : Int) < (cs.length : Int)) = false := decide_eq_false (by omega)
        have hz2 : ¬ 0 < cs.length := by omega
        have HK2 : Hid (KyI w0 b tb p (L ++ laidK L2 (its.map (·.1.l)) i ++ L2 i) wr) := Lib.hid (by rw [HL2.out hz i, List.append_nil]; exact HK.out)
        clear hz hu1 hu2 hlb
        go_upto_region 5 with (fail)
        have hw2 := HW2.out _ HK2.out
        obtain ⟨f0, hf⟩ := hw2
        by_cases hlt : i < its.length
        · obtain ⟨g, rfl, key, f1, hkc⟩ := hf hlt
          have HKC := Lib.hid hkc
          have s1 : (i : Int) < (its.length : Int) := by omega
          clear hf hkc HEND
          go_wp2_with (go_at_call 70; refine HKC.out.mono ?_; rintro e w5 ⟨rfl, hk5⟩)
          go_roundw
          case measure => simp [intOf]; omega
          case rel => exact ⟨i + 1, by omega, by simp, Lib.hid hk5⟩
        · have s1 : decide ((i : Int) < (its.length : Int)) = false := decide_eq_false (by omega)
          have s2 : ¬ i < its.length := hlt
          clear hf
          go_wp2_with fail
          go_roundw
          case measure => simp [intOf]; omega
          case rel => exact ⟨i + 1, by omega, by simp, Lib.hid (by rw [HEND.out (by omega)]; exact HK2.out)⟩
      · have hcl1 : cs.length = its.length + 1 := HCS.out.resolve_left hz
        have hz1 : (0 : Int) < (cs.length : Int) := by omega
        have hi2 : i < cs.length := by omega
        have hi3 : (i : Int) < (cs.length : Int) := by omega
        obtain ⟨gc, rfl, hk1, -⟩ := (HN.out _ HK.out.bl).ccell (i := i) hi2
        have hkk : (nf its cs).cs[i]'hi2 = cs[i] := rfl
        rw [hkk] at hk1
        have HC := Lib.hid (HIH.out i hi2 wr _ HK.out (by rw [List.length_append]; omega))
        unfold cloK at HC
        clear hkk hcl1 hu1 hu2 hlb
        unfold nv at hk1
        go_upto_region 5 with (go_at_call 69; refine HC.out.mono ?_; rintro e w4 ⟨rfl, hk4⟩)
        have HK2 := Lib.hid hk4
        clear hk4 HC
        have hw2 := HW2.out _ HK2.out
        obtain ⟨f0, hf⟩ := hw2
        by_cases hlt : i < its.length
        · obtain ⟨g, rfl, key, f1, hkc⟩ := hf hlt
          have HKC := Lib.hid hkc
          have s1 : (i : Int) < (its.length : Int) := by omega
          clear hf hkc HEND
          go_wp2_with (go_at_call 70; refine HKC.out.mono ?_; rintro e w5 ⟨rfl, hk5⟩)
          go_roundw
          case measure => simp [intOf]; omega
          case rel => exact ⟨i + 1, by omega, by simp, Lib.hid hk5⟩
        · have s1 : decide ((i : Int) < (its.length : Int)) = false := decide_eq_false (by omega)
          have s2 : ¬ i < its.length := hlt
          clear hf
          go_wp2_with fail
          go_roundw
          case measure => simp [intOf]; omega
          case rel => exact ⟨i + 1, by omega, by simp, Lib.hid (by rw [HEND.out (by omega)]; exact HK2.out)⟩
    · have e1 : i = its.length + 1 := by omega
      subst e1
      have s1 : decide (((its.length + 1 : Nat) : Int) < (its.length : Int) + 1) = false := decide_eq_false (by omega)
      go_wp2_with fail
      go_end0
      exact ⟨rfl, HK.out⟩
theorem weave_kid0 {β : Type} : ∀ (I : List β) (C : List (List β)), C.length = I.length + 1 → ∀ c ∈ C, c.Sublist (weave I C)
  | [], [], h, c, hc => by cases hc
  | [], [d], _, c, hc => by
    rw [List.mem_singleton.1 hc]
    simp [weave]
  | [], _ :: _ :: _, h, c, hc => by simp at h
  | _ :: _, [], h, c, hc => by simp at h
  | a :: I, d :: C, h, c, hc => by
    show c.Sublist (d ++ a :: weave I C)
    rcases List.mem_cons.1 hc with rfl | hc
    · exact List.sublist_append_left _ _
    · exact ((weave_kid0 I C (by simpa using h) c hc).trans (List.sublist_cons_self _ _)).trans (List.sublist_append_right _ _)
/-- Any tree's keys. -/
theorem each_any (p m sz q b tb : Nat) (hm : m ≤ 1000) (w0 : World) (o : Nat → Nat) (M : Nat → Option (Nf Ky)) (ht : TrAt w0 o p m sz q) (hg : Gm w0 o M) : ∀ (h : Nat) (t : BT Ky h) (lo hi : Nat), Tr M h t → OkT m h lo hi t → hi ≤ 1000 → ∀ (w : World) (L : List (List Int)), KyI w0 b tb p L w → L.length + (toL h t).length ≤ 1000000000 →
    Calls Try.prog 69 #[nv t.id, cloK b tb] w fun e w' => e = .returned (.tuple #[]) ∧ KyI w0 b tb p (L ++ (toL h t).map (·.1.l)) w'
  | 0, t, lo, hi, hT, hok, hhi, w, L, hI, hl => by
    have e := laidK_nil (fun _ => []) (t.its.map (·.1.l)) (fun _ => rfl)
    rw [List.length_map] at e
    have := each_node p m sz q b tb t.id t.its [] w0 w o ht (hg _ _ hT) (by have := hok.2; omega) (.inl rfl) (fun _ => []) (fun _ _ => rfl) (fun j hj => by simp at hj) L hI (by rw [e, List.length_map]; exact hl)
    rw [e] at this
    exact this
  | h + 1, t, lo, hi, hT, hok, hhi, w, L, hI, hl => by
    have hkl : t.kds.length = t.its.length + 1 := hok.2.1
    have hcl : (t.kds.map Nd.id).length = t.kds.length := List.length_map _
    have hil : t.its.length ≤ hi := hok.1.2
    have e := laidK_weave (fun a : Ky × Int => a.1.l) (fun l => l.map (·.1.l)) rfl t.its (List.map (toL h) t.kds) (by rw [List.length_map]; exact hkl)
    have hsub : ∀ c ∈ t.kds, (toL h c).length ≤ (toL (h + 1) t).length := fun c hc => (weave_kid0 t.its (List.map (toL h) t.kds) (by rw [List.length_map]; exact hkl) _ (List.mem_map_of_mem hc)).length_le
    have hlen : (laidK (kidAt (fun l : List (Ky × Int) => l.map (·.1.l)) (List.map (toL h) t.kds)) (t.its.map (·.1.l)) (t.its.length + 1)).length = (toL (h + 1) t).length := by
      rw [e, List.length_map]
      rfl
    have := each_node p m sz q b tb t.id t.its (t.kds.map Nd.id) w0 w o ht (hg _ _ hT.1) (by omega) (.inr (by omega)) (kidAt (fun l : List (Ky × Int) => l.map (·.1.l)) (List.map (toL h) t.kds)) (fun hz => by omega) (fun j hj w L hI hl => by
      have hj2 : j < t.kds.length := by omega
      have hc : t.kds[j] ∈ t.kds := List.getElem_mem _
      simp only [kidAt, List.getElem?_map, List.getElem?_eq_getElem hj2, List.getElem_map, Option.map_some] at hl ⊢
      rw [List.length_map] at hl
      exact each_any p m sz q b tb hm w0 o M ht hg h t.kds[j] (m / 2) m (hT.2 _ hc) (hok.2.2 _ hc) hm w L hI hl) L hI (by rw [hlen]; exact hl)
    rw [e] at this
    exact this
/-- What Keys answers. -/
def KeysP (L : List (List Int × Int)) (w : World) (e : Ending) (w' : World) : Prop := ∃ (A : Option Addr) (c : Nat) (K : List Ky), e = .returned (.slice A L.length c) ∧ K.map (·.l) = L.map (·.1) ∧ w'.ownsRow w.heap.size 22 1 (.slice A L.length c) L.length (ksR K) ∧ (∀ k ∈ K, Fk w.heap.size w' k) ∧ Below w.heap.size w w'
set_option maxRecDepth 100000 in
set_option maxHeartbeats 1000000 in
theorem Keys_any (base p m h : Nat) (t : BT Ky h) (w : World) (o : Nat → Nat) (M : Nat → Option (Nf Ky)) (b : Bm base w o p m h t M) (hm : 3 ≤ m ∧ m ≤ 64) (hlen : (toL h t).length ≤ 65536) :
    Calls Try.prog 39 #[nv p] w (KeysP (cts (toL h t)) w) := by
  have HGD := Lib.hid (fun W (hW : Below w.heap.size w W) => good_any p m _ _ W o (⟨(hW.block p (blk_lt b.at_.blk)).trans b.at_.blk, b.at_.tg⟩ : TrAt W o p m _ t.id))
  have HTR := Lib.hid b.at_
  have HEA := Lib.hid (fun W B tb (hI : KyI w B tb p [] W) => each_any p m _ t.id B tb (by omega) w o M b.at_ b.tm.gm h t _ _ b.tm.tr b.tm.ok b.tm.le W [] hI (by simp; omega))
  have HP4 := Lib.hid (fun W (hW : Below w.heap.size w W) => (⟨(hW.block p (blk_lt b.at_.blk)).trans b.at_.blk, b.at_.tg⟩ : TrAt W o p m _ t.id).cells.2.2.2.2)
  have hct : (toL h t).map (·.1.l) = (cts (toL h t)).map (·.1) := by unfold cts; rw [List.map_map]; rfl
  have hcl : (toL h t).length = (cts (toL h t)).length := (cts_len _).symm
  rw [hct] at HEA
  rw [hcl] at HTR
  generalize cts (toL h t) = L at *
  generalize t.id = q at *
  clear b hlen
  unfold nv cloK at *
  have hB1 : Below w.heap.size w (w.alloc (.cells #[.pointer (some ⟨p, 0, none⟩)] 66)) := (Below.refl _ _).alloc (Nat.le_refl _) _
  have hB2 : Below w.heap.size w ((w.alloc (.cells #[.pointer (some ⟨p, 0, none⟩)] 66)).alloc (.cells #[.slice none 0 0] 69)) := hB1.alloc hB1.size _
  have t1 := HGD.out _ hB1
  have d4 := HP4.out _ hB2
  have HG1 := Lib.hid t1
  have t2 := top_blk w #[.pointer (some ⟨p, 0, none⟩)] 66
  have t3 := top_blk (w.alloc (.cells #[.pointer (some ⟨p, 0, none⟩)] 66)) #[.slice none 0 0] 69
  have hsz : (w.alloc (.cells #[.pointer (some ⟨p, 0, none⟩)] 66)).heap.size = w.heap.size + 1 := by
    show (w.heap.push _).size = _
    exact Array.size_push _
  have HI0 : Hid (KyI w (w.heap.size + 1) w.heap.size p [] ((w.alloc (.cells #[.pointer (some ⟨p, 0, none⟩)] 66)).alloc (.cells #[.slice none 0 0] 69))) := Lib.hid ⟨⟨none, 0, [], rfl, by rw [hsz] at t3; exact t3, World.ownsRow_nil _ _ _ _, fun k hk => (by cases hk)⟩, ((Below.refl _ (w.alloc (.cells #[.pointer (some ⟨p, 0, none⟩)] 66))).alloc (Nat.le_refl _) (.cells #[.slice none 0 0] 69) |>.block w.heap.size (by rw [hsz]; omega)).trans t2, by omega, hB2⟩
  have HEC := Lib.hid (HEA.out _ _ _ HI0.out)
  clear t1 t2 t3 hsz HI0 hB1 hB2 HEA HGD HP4 HTR
  go_enter Try.func39, Try.ntmps39
  go_wp2_with (first | (go_at_call 63; refine HG1.out.mono ?_; rintro e w' ⟨rfl, e2⟩; rw [e2]; clear e2 w') | (go_at_call 69; refine HEC.out.mono ?_; rintro e w4 ⟨rfl, hk4⟩; obtain ⟨A, c, K, hkl, hb, ho, hf⟩ := hk4.out; have b1 := blk_cell hb 0; simp only [List.getElem?_toArray, List.getElem?_cons_zero] at b1; have HK4 := Lib.hid hk4.bl; have HO4 := Lib.hid ho; have HF4 := Lib.hid hf; have HKL4 := Lib.hid hkl; clear hk4 hb ho hf hkl))
  go_ret
  have e1 := HKL4.out
  have e2 := HO4.out
  rw [List.nil_append] at e1
  rw [List.nil_append, List.length_map] at e2
  exact ⟨A, c, K, by simp, e1, e2, HF4.out, HK4.out⟩
theorem CT.keys {base : Nat} {w : World} {o : Nat → Nat} {p m : Nat} {L : List (List Int × Int)} (T : CT base w o p m L) (hm : 3 ≤ m ∧ m ≤ 64) (hl : L.length ≤ 65536) :
    Calls Try.prog 39 #[nv p] w (KeysP L w) := by
  obtain ⟨h, t, M, b, rfl⟩ := T
  rw [cts_len] at hl
  exact Keys_any base p m h t w o M b hm hl
end Go.Proofs.Ytfhonfeopkhdeaa.BC
