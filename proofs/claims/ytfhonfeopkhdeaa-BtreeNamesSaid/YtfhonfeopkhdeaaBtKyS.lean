/-
  Keys: all keys in order, in a row of one's own. No premise.
-/
import Derived.Test.YtfhonfeopkhdeaaBtL7
namespace Go.Proofs.Ytfhonfeopkhdeaa.BS
open Go.RowKit Go.Proofs.YtfhonfeopkhdeaaW.PrintWords

/-- The boxes while the keys are laid: b has the row, tb the tree. -/
structure KyI (w0 : World) (b tb p : Nat) (L : List Ky) (w : World) : Prop where
  out : ∃ A c, w.heap[b]? = some (.cells #[.slice A L.length c] 34 (0, 0)) ∧ w.ownsRow w0.heap.size 9 1 (.slice A L.length c) L.length (ksR L)
  tr : w.heap[tb]? = some (.cells #[nv p] 30 (0, 0))
  hb : w0.heap.size ≤ b
  bl : Below w0.heap.size w0 w
set_option maxRecDepth 100000 in
set_option maxHeartbeats 2000000 in
theorem keys1_any (p m sz q b tb : Nat) (w0 w : World) (o : Nat → Nat) (ht : TrAt w0 o p m sz q) (L : List Ky) (HI : Hid (KyI w0 b tb p L w)) (hl : L.length + 1 ≤ 1000000000) (key : Ky) :
    Calls Try.prog 56 #[kv key, .pointer (some ⟨b, 0, none⟩), .pointer (some ⟨tb, 0, none⟩)] w fun e w' => e = .returned (.tuple #[]) ∧ KyI w0 b tb p (L ++ [key]) w' := by
  have c2 := fun W (hW : Below w0.heap.size w0 W) => ((⟨(hW.block p (blk_lt ht.blk)).trans ht.blk, ht.tg⟩ : TrAt W o p m sz q)).cells.2.2.2.1
  obtain ⟨A, cA, hb, ho⟩ := HI.out.out
  have c3 := c2 w HI.out.bl
  have b1 := blk_cell hb 0
  have b2 := blk_frozen hb 0
  have t1 := blk_cell HI.out.tr 0
  simp only [List.getElem?_toArray, List.getElem?_cons_zero] at b1 t1
  have HBK := Lib.hid hb
  have HOW := Lib.hid ho
  have HHK := Lib.hid (own_same key w.drew)
  obtain ⟨i0, hi0, hz0, hz1, hz2⟩ := info_parts infoBS
  have hBl := blk_lt hb
  have HBN := Lib.hid (show (Value.slice A L.length cA).ownBlock ≠ some b from fun e => by
    obtain ⟨cs', hc'⟩ := ownsRow_is ho e
    exact blk_ne hc' hb (by decide) rfl)
  have HSZ := Lib.hid HI.out.bl.size
  clear c2 hb ho ht
  unfold kv at HHK ⊢
  unfold nv at t1
  go_enter Try.func56, Try.ntmps56
  go_wp2_with fail
  go_region_law (first
    | (go_simp; go_at_call 51; refine HHK.out.mono ?_; rintro e w1 ⟨rfl, e2⟩; have HW1 := Lib.hid e2; have hb1 : Below w.heap.size w w1 := (by rw [e2]; exact (Below.refl _ _).drew); clear e2; have HB1 := Lib.hid hb1; clear hb1; have d1 : w1.cell? ⟨b, 0, none⟩ = some (.slice A L.length cA) := (by rw [HW1.out]; exact b1); have HB2 := Lib.hid (HB1.out.alloc HB1.out.size (.cells #[.string key] 9)); have d2 := (blk_cell ((HB2.out.block b hBl).trans HBK.out) 0); simp only [List.getElem?_toArray, List.getElem?_cons_zero] at d2)
    | (refine step_append_lies _ rfl (.tmp 4) (.tmp 11) 34 rfl w0.heap.size 9 i0 (.string ⟨#[]⟩) 1 16 Try.underlying34 hi0 hz0 hz1 hz2 rfl (by decide) (.slice A L.length cA) L.length (ksR L) (by simp [Act.eval]) (ownsRow_keep HOW.out fun g hg hl => HB2.out.block g hl) _ 1 1 [.string key] (by simp [Act.eval]) rfl (World.news_of_block (top_blk _ _ _)) (by simp [Value.oneCell']) (by decide) (by simp only [maxLen]; omega) (by omega) (by have := HB2.out.size; have := HSZ.out; omega) _ rfl ?_; intro g7 cap7 w7 hown hgrow hat hlt7; have hp7 := (hgrow.block b (Nat.lt_of_lt_of_le hBl HB2.out.size) (fun e => HBN.out e.symm)).trans ((HB2.out.block b hBl).trans HBK.out); have e75 := blk_cell hp7 0; have e76 := blk_frozen hp7 0; simp only [List.getElem?_toArray, List.getElem?_cons_zero] at e75; have HOW7 := Lib.hid hown; have HGR7 := Lib.hid hgrow; have HP7 := Lib.hid hp7; clear hp7 hown hgrow hat))
  all_goals
    go_wp2_with fail
    go_end0
    refine ⟨rfl, ?_, ?_, HI.out.hb, ?_⟩
    · have e : ksR (L ++ [key]) = ksR L ++ [.string key] := by simp [ksR, kv]
      rw [e, List.length_append]
      refine ⟨_, _, blk_set HP7.out 0 _, ownsRow_keep HOW7.out fun g' hg' _ => Below.heap_setCell w7 ⟨b, 0, none⟩ _ g' fun e2 => ?_⟩
      obtain ⟨cs', hc'⟩ := ownsRow_is HOW7.out hg'
      exact blk_ne hc' HP7.out (by decide) e2
    · have h1 := (HGR7.out.block tb (Nat.lt_of_lt_of_le (blk_lt HI.out.tr) HB2.out.size) (fun e => by
        obtain ⟨cs', hc'⟩ := ownsRow_is HOW.out e.symm
        exact blk_ne hc' HI.out.tr (by decide) rfl)).trans ((HB2.out.block tb (blk_lt HI.out.tr)).trans HI.out.tr)
      exact (Below.heap_setCell w7 ⟨b, 0, none⟩ _ tb (blk_ne h1 HP7.out (by decide))).trans h1
    · have hb2 : Below w0.heap.size w w7 := by
        have h1 := HB2.out
        refine ⟨HGR7.out.os.trans h1.os, HGR7.out.tape.trans h1.tape, HGR7.out.output.trans h1.output, Nat.le_trans h1.size HGR7.out.size, fun c hc => (HGR7.out.block c (by have := h1.size; have := HSZ.out; omega) (fun e => ?_)).trans (h1.block c (by have := HSZ.out; omega))⟩
        have := (World.ownsRow.lt HOW.out c e.symm).1
        omega
      exact HI.out.bl.trans (hb2.trans ⟨rfl, rfl, rfl, by simp [World.setCell], fun c hc => Below.heap_setCell w7 ⟨b, 0, none⟩ _ c (by show c ≠ b; have := HI.out.hb; omega)⟩)
/-- What the rounds over a node have laid. -/
def laidK (L2 : Nat → List Ky) (ks : List Ky) (i : Nat) : List Ky := (List.range i).flatMap fun j => L2 j ++ ks[j]?.toList
theorem laidK_succ (L2 : Nat → List Ky) (ks : List Ky) (i : Nat) : laidK L2 ks (i + 1) = laidK L2 ks i ++ (L2 i ++ ks[i]?.toList) := by unfold laidK; rw [List.range_succ, List.flatMap_append]; simp
theorem laidK_le (L2 : Nat → List Ky) (ks : List Ky) {i n : Nat} (h : i ≤ n) : (laidK L2 ks i).length ≤ (laidK L2 ks n).length := by
  induction n with
  | zero => rw [Nat.le_zero.1 h]; exact Nat.le_refl _
  | succ n ih =>
    rcases Nat.lt_or_eq_of_le h with h | rfl
    · rw [laidK_succ, List.length_append]; have := ih (by omega); omega
    · exact Nat.le_refl _
theorem laidK_cons (L2 : Nat → List Ky) (k : Ky) (ks : List Ky) (i : Nat) : laidK L2 (k :: ks) (i + 1) = (L2 0 ++ [k]) ++ laidK (fun j => L2 (j + 1)) ks i := by
  unfold laidK
  rw [List.range_succ_eq_map, List.flatMap_cons, List.flatMap_map]
  rfl
theorem laidK_nil (L2 : Nat → List Ky) : ∀ (ks : List Ky), (∀ j, L2 j = []) → laidK L2 ks (ks.length + 1) = ks
  | [], h => by simp [laidK, h]
  | k :: ks, h => by
    rw [List.length_cons, laidK_cons, laidK_nil _ ks (fun j => h (j + 1)), h 0]
    rfl
theorem laidK_weave (f : List (Ky × Int) → List Ky) (hf : f = fun l => l.map (·.1)) : ∀ (I : List (Ky × Int)) (C : List (List (Ky × Int))), C.length = I.length + 1 → laidK (fun j => match C[j]? with | some c => f c | none => []) (I.map (·.1)) (I.length + 1) = f (weave I C)
  | [], [], h => by simp at h
  | [], [c], _ => by simp [laidK, weave]
  | [], _ :: _ :: _, h => by simp at h
  | _ :: _, [], h => by simp at h
  | a :: I, c :: C, h => by
    have ih := laidK_weave f hf I C (by simpa using h)
    rw [List.map_cons, List.length_cons, laidK_cons]
    have e : (fun j => match (c :: C)[j + 1]? with | some c => f c | none => []) = (fun j => match C[j]? with | some c => f c | none => []) := by
      funext j
      rw [List.getElem?_cons_succ]
    rw [e, ih]
    show _ = f (c ++ a :: weave I C)
    rw [hf]
    simp
abbrev cloK (b tb : Nat) : Value := .func (.func 56) #[] #[.pointer (some ⟨b, 0, none⟩), .pointer (some ⟨tb, 0, none⟩)]
set_option maxRecDepth 100000 in
set_option maxHeartbeats 2000000 in
theorem each_node (p m sz q b tb : Nat) (n : Nat) (its : List (Ky × Int)) (cs : List Nat) (w0 w : World) (o : Nat → Nat) (ht : TrAt w0 o p m sz q) (hN : NdE w0 o n (nf its cs)) (hits : its.length ≤ 1000) (hcs : cs.length = 0 ∨ cs.length = its.length + 1) (L2 : Nat → List Ky) (hL2 : cs.length = 0 → ∀ j, L2 j = [])
    (IH : ∀ j (hj : j < cs.length) (w : World) (L : List Ky), KyI w0 b tb p L w → L.length + (L2 j).length ≤ 1000000000 → Calls Try.prog 55 #[nv cs[j], cloK b tb] w fun e w' => e = .returned (.tuple #[]) ∧ KyI w0 b tb p (L ++ L2 j) w')
    (L : List Ky) (hI : KyI w0 b tb p L w) (hl : L.length + (laidK L2 (its.map (·.1)) (its.length + 1)).length ≤ 1000000000) :
    Calls Try.prog 55 #[nv n, cloK b tb] w fun e w' => e = .returned (.tuple #[]) ∧ KyI w0 b tb p (L ++ laidK L2 (its.map (·.1)) (its.length + 1)) w' := by
  obtain ⟨vk, vv, vc, hn⟩ := hN
  obtain ⟨A1, c1, A2, c2, A3, c3, rfl, rfl, rfl, q1, q2, q3⟩ := hn.row
  have hkl : (nf its cs).ks.length = its.length := List.length_map _
  have hcl : (nf its cs).cs.length = cs.length := rfl
  have HN := Lib.hid (fun W (hW : Below w0.heap.size w0 W) => hn.keep (w' := W) (o' := o) fun b hb _ => ⟨hW.block b hb, rfl⟩)
  rw [hkl, hcl] at HN
  rw [hkl] at q1
  rw [hcl] at q3
  obtain ⟨d0, -, -⟩ := (HN.out w hI.bl).cells
  have HIH := Lib.hid IH
  have HLB := Lib.hid hl
  have HI := Lib.hid hI
  have HTR := Lib.hid ht
  have HL2 := Lib.hid hL2
  have HCS := Lib.hid hcs
  have hc0 : (cs.length : Int) ≤ 1001 := by omega
  clear hn IH hkl hcl q2 hl hI ht hL2 hcs
  generalize (nf its cs).vs.length = nv2 at HN
  unfold nv at *
  unfold cloK
  go_enter Try.func55, Try.ntmps55
  go_wp2_with fail
  go_loopw [11] (fun t11 wr => ∃ i : Nat, i ≤ its.length + 1 ∧ t11 = .int .i64 i ∧ Hid (KyI w0 b tb p (L ++ laidK L2 (its.map (·.1)) i) wr)) (fun t11 _ => its.length + 1 - (intOf t11).toNat)
  case atStart => exact ⟨0, Nat.zero_le _, rfl, Lib.hid (by simpa [laidK] using HI.out)⟩
  case round =>
    obtain ⟨i, hi, rfl, HK⟩ := hrel
    obtain ⟨e0, -, e2⟩ := (HN.out _ HK.out.bl).cells
    by_cases h : i < its.length + 1
    · have hi1 : (i : Int) < (its.length : Int) + 1 := by omega
      have hu1 := laidK_le L2 (its.map (·.1)) (show i + 1 ≤ its.length + 1 from h)
      have hu2 := congrArg List.length (laidK_succ L2 (its.map (·.1)) i)
      rw [List.length_append, List.length_append] at hu2
      have hlb := HLB.out
      have HW2 : Hid (∀ w2, KyI w0 b tb p (L ++ laidK L2 (its.map (·.1)) i ++ L2 i) w2 → w2.cell? ⟨n, 0, none⟩ = some (.slice A1 its.length c1) ∧ (i < its.length → ∃ g, A1 = some ⟨g, 0, none⟩ ∧ ∃ key, (its.map (·.1))[i]? = some key ∧ w2.cell? ⟨g, i, none⟩ = some (.string key) ∧ Calls Try.prog 56 #[.string key, .pointer (some ⟨b, 0, none⟩), .pointer (some ⟨tb, 0, none⟩)] w2 fun e w' => e = .returned (.tuple #[]) ∧ KyI w0 b tb p (L ++ laidK L2 (its.map (·.1)) (i + 1)) w')) := Lib.hid fun w2 h2 => by
        refine ⟨(HN.out _ h2.bl).cells.1, fun hlt => ?_⟩
        obtain ⟨g, hg, hk1, -⟩ := (HN.out _ h2.bl).kcell (i := i) (by show i < (its.map _).length; rw [List.length_map]; exact hlt)
        refine ⟨g, hg, its[i].1, by rw [List.getElem?_map, List.getElem?_eq_getElem hlt]; rfl, ?_, ?_⟩
        · have hkk : (nf its cs).ks[i]'(by show i < (its.map _).length; rw [List.length_map]; exact hlt) = (its[i]).1 := by simp [nf]
          rw [hkk] at hk1
          exact hk1
        · have e : L ++ laidK L2 (its.map (·.1)) (i + 1) = L ++ laidK L2 (its.map (·.1)) i ++ L2 i ++ [its[i].1] := by
            rw [laidK_succ, List.getElem?_map, List.getElem?_eq_getElem hlt]
            simp
          rw [e]
          have h1 : ((its.map (·.1))[i]?.toList).length = 1 := by rw [List.getElem?_map, List.getElem?_eq_getElem hlt]; rfl
          exact keys1_any p m sz q b tb w0 w2 o HTR.out _ (Lib.hid h2) (by rw [List.length_append, List.length_append]; omega) _
      have HEND : Hid (i = its.length → L ++ laidK L2 (its.map (·.1)) (i + 1) = L ++ laidK L2 (its.map (·.1)) i ++ L2 i) := Lib.hid fun e => by
        rw [laidK_succ, List.getElem?_eq_none (by rw [List.length_map]; omega)]
        simp
      by_cases hz : cs.length = 0
      · have hz1 : decide ((0 : Int) < (cs.length : Int)) = false := decide_eq_false (by omega)
        have hz2 : ¬ 0 < cs.length := by omega
        have HK2 : Hid (KyI w0 b tb p (L ++ laidK L2 (its.map (·.1)) i ++ L2 i) wr) := Lib.hid (by rw [HL2.out hz i, List.append_nil]; exact HK.out)
        clear hz hu1 hu2 hlb
        go_upto_region 5 with (fail)
        have hw2 := HW2.out _ HK2.out
        obtain ⟨f0, hf⟩ := hw2
        by_cases hlt : i < its.length
        · obtain ⟨g, rfl, key, hke, f1, hkc⟩ := hf hlt
          have HKC := Lib.hid hkc
          have s1 : (i : Int) < (its.length : Int) := by omega
          clear hf hkc hke HEND
          go_wp2_with (go_at_call 56; refine HKC.out.mono ?_; rintro e w5 ⟨rfl, hk5⟩)
          go_roundw
          case measure => simp [intOf]; omega
          case rel => exact ⟨i + 1, by omega, by simp, Lib.hid hk5⟩
        · have s1 : decide ((i : Int) < (its.length : Int)) = false := decide_eq_false (by omega)
          have s2 : ¬ i < its.length := hlt
          clear hf
          go_wp2_with fail
          go_roundw
          case measure => simp [intOf]; omega
          case rel => exact ⟨i + 1, by omega, by simp, Lib.hid (by rw [HEND.out (by omega)]; exact HK2.out)⟩
      · have hcl1 : cs.length = its.length + 1 := HCS.out.resolve_left hz
        have hz1 : (0 : Int) < (cs.length : Int) := by omega
        have hi2 : i < cs.length := by omega
        have hi3 : (i : Int) < (cs.length : Int) := by omega
        obtain ⟨gc, rfl, hk1, -⟩ := (HN.out _ HK.out.bl).ccell (i := i) hi2
        have hkk : (nf its cs).cs[i]'hi2 = cs[i] := rfl
        rw [hkk] at hk1
        have HC := Lib.hid (HIH.out i hi2 wr _ HK.out (by rw [List.length_append]; omega))
        unfold cloK at HC
        clear hkk hcl1 hu1 hu2 hlb
        unfold nv at hk1
        go_upto_region 5 with (go_at_call 55; refine HC.out.mono ?_; rintro e w4 ⟨rfl, hk4⟩)
        have HK2 := Lib.hid hk4
        clear hk4 HC
        have hw2 := HW2.out _ HK2.out
        obtain ⟨f0, hf⟩ := hw2
        by_cases hlt : i < its.length
        · obtain ⟨g, rfl, key, hke, f1, hkc⟩ := hf hlt
          have HKC := Lib.hid hkc
          have s1 : (i : Int) < (its.length : Int) := by omega
          clear hf hkc hke HEND
          go_wp2_with (go_at_call 56; refine HKC.out.mono ?_; rintro e w5 ⟨rfl, hk5⟩)
          go_roundw
          case measure => simp [intOf]; omega
          case rel => exact ⟨i + 1, by omega, by simp, Lib.hid hk5⟩
        · have s1 : decide ((i : Int) < (its.length : Int)) = false := decide_eq_false (by omega)
          have s2 : ¬ i < its.length := hlt
          clear hf
          go_wp2_with fail
          go_roundw
          case measure => simp [intOf]; omega
          case rel => exact ⟨i + 1, by omega, by simp, Lib.hid (by rw [HEND.out (by omega)]; exact HK2.out)⟩
    · have e1 : i = its.length + 1 := by omega
      subst e1
      have s1 : decide (((its.length + 1 : Nat) : Int) < (its.length : Int) + 1) = false := decide_eq_false (by omega)
      go_wp2_with fail
      go_end0
      exact ⟨rfl, HK.out⟩
theorem weave_kid0 {β : Type} : ∀ (I : List β) (C : List (List β)), C.length = I.length + 1 → ∀ c ∈ C, c.Sublist (weave I C)
  | [], [], h, c, hc => by cases hc
  | [], [d], _, c, hc => by
    rw [List.mem_singleton.1 hc]
    simp [weave]
  | [], _ :: _ :: _, h, c, hc => by simp at h
  | _ :: _, [], h, c, hc => by simp at h
  | a :: I, d :: C, h, c, hc => by
    show c.Sublist (d ++ a :: weave I C)
    rcases List.mem_cons.1 hc with rfl | hc
    · exact List.sublist_append_left _ _
    · exact ((weave_kid0 I C (by simpa using h) c hc).trans (List.sublist_cons_self _ _)).trans (List.sublist_append_right _ _)
/-- Any tree's keys. -/
theorem each_any (p m sz q b tb : Nat) (hm : m ≤ 1000) (w0 : World) (o : Nat → Nat) (M : Nat → Option (Nf Ky)) (ht : TrAt w0 o p m sz q) (hg : Gm w0 o M) : ∀ (h : Nat) (t : BT Ky h) (lo hi : Nat), Tr M h t → OkT m h lo hi t → hi ≤ 1000 → ∀ (w : World) (L : List Ky), KyI w0 b tb p L w → L.length + (toL h t).length ≤ 1000000000 →
    Calls Try.prog 55 #[nv t.id, cloK b tb] w fun e w' => e = .returned (.tuple #[]) ∧ KyI w0 b tb p (L ++ (toL h t).map (·.1)) w'
  | 0, t, lo, hi, hT, hok, hhi, w, L, hI, hl => by
    have e := laidK_nil (fun _ => []) (t.its.map (·.1)) (fun _ => rfl)
    rw [List.length_map] at e
    have := each_node p m sz q b tb t.id t.its [] w0 w o ht (hg _ _ hT) (by have := hok.2; omega) (.inl rfl) (fun _ => []) (fun _ _ => rfl) (fun j hj => by simp at hj) L hI (by rw [e, List.length_map]; exact hl)
    rw [e] at this
    exact this
  | h + 1, t, lo, hi, hT, hok, hhi, w, L, hI, hl => by
    have hkl : t.kds.length = t.its.length + 1 := hok.2.1
    have hcl : (t.kds.map Nd.id).length = t.kds.length := List.length_map _
    have hil : t.its.length ≤ hi := hok.1.2
    have e := laidK_weave (fun l => l.map (·.1)) rfl t.its (List.map (toL h) t.kds) (by rw [List.length_map]; exact hkl)
    have hsub : ∀ c ∈ t.kds, (toL h c).length ≤ (toL (h + 1) t).length := fun c hc => (weave_kid0 t.its (List.map (toL h) t.kds) (by rw [List.length_map]; exact hkl) _ (List.mem_map_of_mem hc)).length_le
    have hlen : (laidK (fun j => match (List.map (toL h) t.kds)[j]? with | some c => c.map (·.1) | none => []) (t.its.map (·.1)) (t.its.length + 1)).length = (toL (h + 1) t).length := by
      rw [e, List.length_map]
      rfl
    have := each_node p m sz q b tb t.id t.its (t.kds.map Nd.id) w0 w o ht (hg _ _ hT.1) (by omega) (.inr (by omega)) (fun j => match (List.map (toL h) t.kds)[j]? with | some c => c.map (·.1) | none => []) (fun hz => by omega) (fun j hj w L hI hl => by
      have hj2 : j < t.kds.length := by omega
      have hc : t.kds[j] ∈ t.kds := List.getElem_mem _
      simp only [List.getElem?_map, List.getElem?_eq_getElem hj2, List.getElem_map, Option.map_some] at hl ⊢
      rw [List.length_map] at hl
      exact each_any p m sz q b tb hm w0 o M ht hg h t.kds[j] (m / 2) m (hT.2 _ hc) (hok.2.2 _ hc) hm w L hI hl) L hI (by rw [hlen]; exact hl)
    rw [e] at this
    exact this
set_option maxRecDepth 100000 in
set_option maxHeartbeats 1000000 in
theorem Keys_any (base p m h : Nat) (t : BT Ky h) (w : World) (o : Nat → Nat) (M : Nat → Option (Nf Ky)) (b : Bm base w o p m h t M) (hm : 3 ≤ m ∧ m ≤ 64) (hlen : (toL h t).length ≤ 65536) :
    Calls Try.prog 24 #[nv p] w fun e w' => ∃ v, e = .returned v ∧ w'.ownsRow w.heap.size 9 1 v (toL h t).length (ksR ((toL h t).map (·.1))) ∧ Below w.heap.size w w' := by
  have HGD := Lib.hid (fun W (hW : Below w.heap.size w W) => good_any p m _ _ W o (⟨(hW.block p (blk_lt b.at_.blk)).trans b.at_.blk, b.at_.tg⟩ : TrAt W o p m _ t.id))
  have HTR := Lib.hid b.at_
  have HEA := Lib.hid (fun W B tb (hI : KyI w B tb p [] W) => each_any p m _ t.id B tb (by omega) w o M b.at_ b.tm.gm h t _ _ b.tm.tr b.tm.ok b.tm.le W [] hI (by simp; omega))
  have HP4 := Lib.hid (fun W (hW : Below w.heap.size w W) => (⟨(hW.block p (blk_lt b.at_.blk)).trans b.at_.blk, b.at_.tg⟩ : TrAt W o p m _ t.id).cells.2.2.2.2)
  generalize toL h t = L at *
  generalize t.id = q at *
  clear b hlen
  unfold nv cloK at *
  have hB1 : Below w.heap.size w (w.alloc (.cells #[.pointer (some ⟨p, 0, none⟩)] 30)) := (Below.refl _ _).alloc (Nat.le_refl _) _
  have hB2 : Below w.heap.size w ((w.alloc (.cells #[.pointer (some ⟨p, 0, none⟩)] 30)).alloc (.cells #[.slice none 0 0] 34)) := hB1.alloc hB1.size _
  have t1 := HGD.out _ hB1
  have d4 := HP4.out _ hB2
  have HG1 := Lib.hid t1
  have t2 := top_blk w #[.pointer (some ⟨p, 0, none⟩)] 30
  have t3 := top_blk (w.alloc (.cells #[.pointer (some ⟨p, 0, none⟩)] 30)) #[.slice none 0 0] 34
  have hsz : (w.alloc (.cells #[.pointer (some ⟨p, 0, none⟩)] 30)).heap.size = w.heap.size + 1 := by
    show (w.heap.push _).size = _
    exact Array.size_push _
  have HI0 : Hid (KyI w (w.heap.size + 1) w.heap.size p [] ((w.alloc (.cells #[.pointer (some ⟨p, 0, none⟩)] 30)).alloc (.cells #[.slice none 0 0] 34))) := Lib.hid ⟨⟨none, 0, by rw [hsz] at t3; exact t3, World.ownsRow_nil _ _ _ _⟩, ((Below.refl _ (w.alloc (.cells #[.pointer (some ⟨p, 0, none⟩)] 30))).alloc (Nat.le_refl _) (.cells #[.slice none 0 0] 34) |>.block w.heap.size (by rw [hsz]; omega)).trans t2, by omega, hB2⟩
  have HEC := Lib.hid (HEA.out _ _ _ HI0.out)
  clear t1 t2 t3 hsz HI0 hB1 hB2 HEA HGD HP4 HTR
  go_enter Try.func24, Try.ntmps24
  go_wp2_with (first | (go_at_call 47; refine HG1.out.mono ?_; rintro e w' ⟨rfl, e2⟩; rw [e2]; clear e2 w') | (go_at_call 55; refine HEC.out.mono ?_; rintro e w4 ⟨rfl, hk4⟩; obtain ⟨A, c, hb, ho⟩ := hk4.out; have b1 := blk_cell hb 0; simp only [List.getElem?_toArray, List.getElem?_cons_zero] at b1; have HK4 := Lib.hid hk4.bl; have HO4 := Lib.hid ho; clear hk4 hb ho))
  go_ret
  refine ⟨_, rfl, ?_, HK4.out⟩
  have := HO4.out
  rw [List.nil_append, List.length_map] at this
  exact this
end Go.Proofs.Ytfhonfeopkhdeaa.BS
