/-
  slices.Insert over bytes: one byte ahead of a row of one's own. No premise.
-/
import Derived.Test.YtdfpikimeihefaaOct5
import Derived.Lib.Overlaps
import Derived.Lib.AppendZerosOnto
import Derived.Laws.CopyOwn
import Derived.Laws.Externs
namespace Go.Proofs.Ytdfpikimeihefaa
open Go.RowKit Go.Proofs.YtdfpikimeihefaaW.PrintWords

theorem own_room {w : World} {base g cap n : Nat} {l : List Int} (h : Own w base (.slice (some ⟨g, 0, none⟩) n cap) l) : ∃ cur : List Value, w.heap[g]? = some (.cells cur.toArray 5 (0, 0)) ∧ cur.length = cap ∧ cur.take l.length = nums .u8 l := by
  obtain ⟨_, _, _, _, cur, hg, hs, ht⟩ := own_open h
  exact ⟨cur.toList, by simpa using hg, by simpa using hs, ht⟩
/-- copy(d, s), some bytes going over: as one step of a region that draws, and as the next of a list. -/
theorem step_cpy {ops : Array Oper} {o : Oper} {a : Act} {w : World} {K : Act → World → Prop} {Q : Exit → Act → World → Prop} {E : Prop} (hgd : o.guard = none) (d s : Operand)
    (ho : o.op = .call { callee := .builtin .copy, args := #[d, s], argTypes := #[28, 28] })
    (ad : Addr) (dLen dCap sLen sCap : Nat) (g off : Nat) (hd : a.eval d = .slice (some ⟨g, off, none⟩) dLen dCap) (hs : a.eval s = .slice (some ad) sLen sCap)
    (cur : List Value) (hg : w.heap[g]? = some (.cells cur.toArray 5 (0, 0))) (cs : List Value) (hn : cs.length = Nat.min sLen dLen)
    (hsrc : ∀ j v, cs[j]? = some v → w.cell? (ad.add j) = some v) (hfit : off + cs.length ≤ cur.length) (h1 : ∀ v ∈ cs, v.oneCell' = true)
    (h : ∀ w', Hid (w'.heap[g]? = some (.cells (splice cur off cs).toArray 5 (0, 0))) → Hid (w.grownBy w' (some g)) → K (a.put o.dst (goInt cs.length)) w') :
    if Region.wanted o (yielded ops a.tmps) = true then Oper.wp Try.prog o a w K Q else E := by
  have hw : Region.wanted o (yielded ops a.tmps) = true := by simp [Region.wanted, hgd]
  rw [if_pos hw]
  have hrun := run_copy_row (P := Try.prog) w 28 28 o.type 5 g off dLen dCap ad sLen sCap cur.toArray 5 cs Try.underlying28 infoS hg hn hsrc (by simpa using hfit) h1
  unfold Oper.wp
  simp [execOp, ho, resolve, invoke, builtin, hd, hs, hrun, Result.andThen]
  exact h _ (show _ = _ by simpa [splice] using setRow_heap w g _ _ 5 _ hg) ⟨rfl, rfl, rfl, by simp [World.setRow], fun k _ hk => setRow_other w g k _ (fun e => hk (by simp [e]))⟩
theorem next_cpy {ops : Array Oper} {rest : List Oper} {o : Oper} {a : Act} {w : World} {Q : Exit → Act → World → Prop} (hgd : o.guard = none) (d s : Operand)
    (ho : o.op = .call { callee := .builtin .copy, args := #[d, s], argTypes := #[28, 28] })
    (ad : Addr) (dLen dCap sLen sCap : Nat) (g off : Nat) (hd : a.eval d = .slice (some ⟨g, off, none⟩) dLen dCap) (hs : a.eval s = .slice (some ad) sLen sCap)
    (cur : List Value) (hg : w.heap[g]? = some (.cells cur.toArray 5 (0, 0))) (cs : List Value) (hn : cs.length = Nat.min sLen dLen)
    (hsrc : ∀ j v, cs[j]? = some v → w.cell? (ad.add j) = some v) (hfit : off + cs.length ≤ cur.length) (h1 : ∀ v ∈ cs, v.oneCell' = true)
    (h : ∀ w', Hid (w'.heap[g]? = some (.cells (splice cur off cs).toArray 5 (0, 0))) → Hid (w.grownBy w' (some g)) → wpList Try.prog ops Q rest (a.put o.dst (goInt cs.length)) w') :
    wpList Try.prog ops Q (o :: rest) a w := by
  refine wpList_copy_own hgd d s 28 28 ho 5 Try.underlying28 infoS g off dLen dCap ad sLen sCap hd hs cur.toArray 5 hg cs hn hsrc (by simpa using hfit) h1 ?_
  exact h _ (show _ = _ by simpa [splice] using setRow_heap w g _ _ 5 _ hg) ⟨rfl, rfl, rfl, by simp [World.setRow], fun k _ hk => setRow_other w g k _ (fun e => hk (by simp [e]))⟩
theorem take_splice1 (cur XS : List Value) (y : Value) (h : XS.length + 1 ≤ cur.length) : (splice (splice cur 1 XS) 0 [y]).take (XS.length + 1) = y :: XS := by
  rcases cur with _ | ⟨c, cur⟩
  · simp at h
  · simp [splice]
theorem take_splice2 (cur XS : List Value) (y : Value) (h : XS.length + 1 ≤ cur.length) : (splice (splice cur 0 [y]) 1 XS).take (XS.length + 1) = y :: XS := by
  rcases cur with _ | ⟨c, cur⟩
  · simp at h
  · simp [splice]
set_option maxRecDepth 100000 in
set_option maxHeartbeats 2000000 in
theorem insert_room (base g cap gv : Nat) (l : List Int) (x : Int) (w : World) (ho : Own w base (.slice (some ⟨g, 0, none⟩) l.length cap) l) (hl0 : 0 < l.length) (hl : l.length ≤ 1000000) (hroom : l.length + 1 ≤ cap)
    (hv : w.heap[gv]? = some (.cells #[.int .u8 x] 5 (0, 0))) (hne : gv ≠ g) :
    Calls Try.prog 56 #[.slice (some ⟨g, 0, none⟩) l.length cap, .int .i64 0, .slice (some ⟨gv, 0, none⟩) 1 1] w fun e w' => ∃ v, e = .returned v ∧ Own w' base v (x :: l) ∧ Below base w w' := by
  obtain ⟨hb, _, _, hm, _⟩ := own_open ho
  obtain ⟨cur, hg, hcl, hct⟩ := own_room ho
  have hcap : cap ≤ 9223372036854775807 := by simpa only [maxLen] using hm
  obtain ⟨i0, hi0, hz0, hz1, hz2⟩ := info_parts infoB
  have hov : ∀ W : World, W.heap[gv]? = some (.cells #[.int .u8 x] 5 (0, 0)) → W.heap[g]? = some (.cells cur.toArray 5 (0, 0)) → ∀ lb cb, (callFunc 66 #[.slice (some ⟨gv, 0, none⟩) 1 1, .slice (some ⟨g, 1, none⟩) lb cb]).run Try.prog W = .ok (.value (.bool false)) W := fun W h1 h2 lb cb => by
    rw [run_callFunc_extern Try.func66 (by kernel_rfl) (by kernel_rfl) (by kernel_rfl) (e := Extern.SlicesOverlaps.overlaps #[28, 28] #[4]) (by kernel_rfl),
      Lib.run_overlaps_apart W 28 4 5 Try.underlying28 1 (fun w => by simp [sizeOf, typeInfo, hi0, hz1]) ⟨gv, 0, none⟩ ⟨g, 1, none⟩ 1 1 lb cb hne 5 5 1 cap
        (by simp [World.shape?, h1]) (by simp [World.shape?, h2, hcl]) (by omega) (blk_frozen h1 0) (blk_frozen h1 1)]
    rfl
  have hov1 := hov w hv hg
  clear hov
  obtain ⟨XS, hXS⟩ : ∃ XS, XS = nums .u8 l := ⟨_, rfl⟩
  have hXl : XS.length = l.length := by rw [hXS, nums_length]
  have hX1 : ∀ v ∈ XS, v.oneCell' = true := by
    rw [hXS]; intro u hu; simp only [nums, List.mem_map] at hu; obtain ⟨q, _, rfl⟩ := hu; rfl
  rw [← hXS] at hct
  have hcell : ∀ W : World, W.heap[g]? = some (.cells cur.toArray 5 (0, 0)) → ∀ j v, XS[j]? = some v → W.cell? ((⟨g, 0, none⟩ : Addr).add j) = some v := fun W hW j v hj => by
    have hjl := (List.getElem?_eq_some_iff.1 hj).1
    rw [add_plain, blk_cell hW, List.getElem?_toArray, ← hj, ← hct, List.getElem?_take, if_pos (by omega)]
  have hvcell : ∀ W : World, W.heap[gv]? = some (.cells #[.int .u8 x] 5 (0, 0)) → ∀ j v, [Value.int .u8 x][j]? = some v → W.cell? ((⟨gv, 0, none⟩ : Addr).add j) = some v := fun W hW j v hj => by
    rw [add_plain, blk_cell hW, ← hj]
    simp
  have hz : ¬ ((l.length : Int) = 0) := by omega
  have hz' : ¬ ((0 : Int) = (l.length : Int)) := by omega
  have hzb : ((0 : Int) == (l.length : Int)) = false := beq_eq_false_iff_ne.2 hz'
  have HG := Lib.hid hg
  have HV := Lib.hid hv
  have HXS := Lib.hid hXS
  have HCT := Lib.hid hct
  have HCL := Lib.hid hcl
  have HXL := Lib.hid hXl
  have HX1 := Lib.hid hX1
  have HC := Lib.hid hcell
  have HVC := Lib.hid hvcell
  clear hg hv hXS hct hcl hXl hX1 hcell hvcell ho
  go_enter Try.func56, Try.ntmps56
  go_wp2_with (simp only [hov1])
  have hw1 : IntKind.i64.wrap 1 = 1 := by decide +kernel
  have hc1 : ¬ cap = 1 := by omega
  have hc0 : ¬ cap = 0 := by omega
  have hl1 : (1 : Int) ≤ (l.length : Int) + 1 := by omega
  have hl2 : (0 : Int) ≤ (l.length : Int) + 1 := by omega
  have hn1 : XS.length = Nat.min (l.length + 1) l.length := by rw [HXL.out]; exact (Nat.min_eq_right (by omega)).symm
  have HN1 := Lib.hid hn1
  have hf1 : 1 + XS.length ≤ cur.length := by rw [HXL.out, HCL.out]; omega
  clear hn1
  go_region_law (refine step_cpy rfl (.tmp 73) (.tmp 76) rfl ⟨g, 0, none⟩ l.length (cap - 1) (l.length + 1) cap g 1 (by simp [Act.eval, Act.put]) (by simp [Act.eval, Act.put]) cur HG.out XS HN1.out (HC.out _ HG.out) hf1 HX1.out ?_; intro w2 hg2 hgr2)
  have HV2 := Lib.hid (blk_grown (show w.drew.heap[gv]? = _ from HV.out) hgr2.out (by intro e; injection e with e; exact hne e))
  have hn2 : 1 = Nat.min 1 (l.length + 1) := by show 1 = min 1 (l.length + 1); omega
  have HN2 := Lib.hid hn2
  have hf2 : 0 + 1 ≤ (splice cur 1 XS).length := by rw [length_splice _ _ _ hf1, HCL.out]; omega
  clear hn2
  go_wp2_with (refine next_cpy rfl (.tmp 80) (.tmp 81) rfl ⟨gv, 0, none⟩ (l.length + 1) cap 1 1 g 0 rfl rfl (splice cur 1 XS) hg2.out [.int .u8 x] HN2.out (HVC.out _ HV2.out) hf2 (by simp [Value.oneCell']) ?_; intro w3 hg3 hgr3)
  go_ret
  refine ⟨_, rfl, ?_, ?_⟩
  · have hT := take_splice1 cur XS (.int .u8 x) (by omega)
    have hlen : (x :: l).length = l.length + 1 := rfl
    rw [← hlen]
    refine own_mk hb (by rw [hlen]; exact hroom) hm hg3.out ?_ ?_
    · rw [List.size_toArray, length_splice _ _ _ hf2, length_splice _ _ _ hf1, HCL.out]
    · show List.take (l.length + 1) _ = _
      rw [← HXL.out, hT, HXS.out]
      rfl
  · have h2 : Below base w.drew w2 := ⟨hgr2.out.os, hgr2.out.tape, hgr2.out.output, hgr2.out.size, fun k hk => by
      by_cases hks : k < w.heap.size
      · exact hgr2.out.block k hks (fun e => by injection e with e; omega)
      · have : g < w.heap.size := blk_lt HG.out
        omega⟩
    exact ((Below.refl _ _).drew.trans h2).grown hgr3.out (by have := hgr2.out.size; have : g < w.heap.size := blk_lt HG.out; simp at *; omega) (fun k e => by injection e with e; omega)
set_option maxRecDepth 100000 in
set_option maxHeartbeats 2000000 in
theorem insert_grow (base g cap gv : Nat) (l : List Int) (x : Int) (w : World) (ho : Own w base (.slice (some ⟨g, 0, none⟩) l.length cap) l) (hl0 : 0 < l.length) (hl : l.length ≤ 1000000) (hroom : ¬ l.length + 1 ≤ cap)
    (hv : w.heap[gv]? = some (.cells #[.int .u8 x] 5 (0, 0))) (hbs : base ≤ w.heap.size) :
    Calls Try.prog 56 #[.slice (some ⟨g, 0, none⟩) l.length cap, .int .i64 0, .slice (some ⟨gv, 0, none⟩) 1 1] w fun e w' => ∃ v, e = .returned v ∧ Own w' base v (x :: l) ∧ Below base w w' := by
  obtain ⟨hb, _, hlc, hm, _⟩ := own_open ho
  obtain ⟨cur, hg, hcl, hct⟩ := own_room ho
  have hcap : cap = l.length := by omega
  obtain ⟨i0, hi0, hz0, hz1, hz2⟩ := info_parts infoB
  obtain ⟨XS, hXS⟩ : ∃ XS, XS = nums .u8 l := ⟨_, rfl⟩
  have hXl : XS.length = l.length := by rw [hXS, nums_length]
  have hX1 : ∀ v ∈ XS, v.oneCell' = true := by
    rw [hXS]; intro u hu; simp only [nums, List.mem_map] at hu; obtain ⟨q, _, rfl⟩ := hu; rfl
  rw [← hXS] at hct
  have hcell : ∀ W : World, W.heap[g]? = some (.cells cur.toArray 5 (0, 0)) → ∀ j v, XS[j]? = some v → W.cell? ((⟨g, 0, none⟩ : Addr).add j) = some v := fun W hW j v hj => by
    have hjl := (List.getElem?_eq_some_iff.1 hj).1
    rw [add_plain, blk_cell hW, List.getElem?_toArray, ← hj, ← hct, List.getElem?_take, if_pos (by omega)]
  have hvcell : ∀ W : World, W.heap[gv]? = some (.cells #[.int .u8 x] 5 (0, 0)) → ∀ j v, [Value.int .u8 x][j]? = some v → W.cell? ((⟨gv, 0, none⟩ : Addr).add j) = some v := fun W hW j v hj => by
    rw [add_plain, blk_cell hW, ← hj]
    simp
  have hold : (Builtin.firstCells i0.size 0 (.slice (some ⟨g, 0, none⟩) 0 cap)).run Try.prog w.drew = .ok ([] : List Value).toArray w.drew := by
    rw [hz1]
    exact run_firstCells_some w.drew 1 0 ⟨g, 0, none⟩ 0 cap [] rfl (fun j v hj => by simp at hj)
  obtain ⟨G, hG⟩ : ∃ G, G = grownCap w (0 + (l.length + 1)) cap 5 := ⟨_, rfl⟩
  obtain ⟨ROW, hROW⟩ : ∃ ROW : Array Value, ROW = ([] : List Value).toArray ++ Builtin.zeroCells (Value.int .u8 0).cells (l.length + 1) ++ Builtin.zeroCells (Value.int .u8 0).cells (G - (0 + (l.length + 1))) := ⟨_, rfl⟩
  have hrz : ∀ ty, (Builtin.append_ #[28, 3] ty #[.slice (some ⟨g, 0, none⟩) 0 cap, .int .i64 ((l.length : Int) + 1)]).run Try.prog w = .ok (.slice (some ⟨w.heap.size, 0, none⟩) (l.length + 1) G) (w.drew.alloc (.cells ROW 5)) := fun ty => by
    have h := Lib.run_append_grow_zeros w 28 3 ty 5 i0 _ .i64 .i64 Try.underlying28 Try.underlying3 hi0 hz0 (some ⟨g, 0, none⟩) 0 cap [] hold (l.length + 1) (by omega) (by omega) (by omega) (by omega) (by rw [hz2]; omega) (by rw [hz2]; exact growslice_fits (by omega) (by omega))
    rw [← hG, ← hROW, Nat.zero_add] at h
    rw [Int.natCast_add] at h
    exact h
  have hGn : l.length + 1 ≤ G := by have := grownCap_ge w (0 + (l.length + 1)) cap 5; omega
  have hGm : G ≤ maxLen := by
    rw [hG]
    exact grownCap_le_maxLen w (0 + (l.length + 1)) cap 5 (by unfold maxLen; omega)
  have hRs : ROW.size = G := by
    rw [hROW]
    simp [Builtin.zeroCells, Value.cells]
    omega
  obtain ⟨row, hrow⟩ : ∃ row : List Value, row = ROW.toList := ⟨_, rfl⟩
  have hrow2 : ROW = row.toArray := by rw [hrow]
  have hrl : row.length = G := by rw [hrow, Array.length_toList, hRs]
  rw [hrow2] at hrz
  have hGmax : G ≤ 9223372036854775807 := by simpa only [maxLen] using hGm
  have hz : ¬ ((l.length : Int) = 0) := by omega
  have hz' : ¬ ((0 : Int) = (l.length : Int)) := by omega
  have hzb : ((0 : Int) == (l.length : Int)) = false := beq_eq_false_iff_ne.2 hz'
  have hbg : g < w.heap.size := blk_lt hg
  have hbv : gv < w.heap.size := blk_lt hv
  have hcr : (cap : Int) < (l.length : Int) + 1 := by omega
  have HG := Lib.hid hg
  have HV := Lib.hid hv
  have HXS := Lib.hid hXS
  have HXL := Lib.hid hXl
  have HX1 := Lib.hid hX1
  have HC := Lib.hid hcell
  have HVC := Lib.hid hvcell
  have HRL := Lib.hid hrl
  have HCAP := Lib.hid hcap
  have HRZ := Lib.hid hrz
  clear hg hv hXS hct hcl hXl hX1 hcell hvcell ho hold hROW hrow hrow2 hrl hRs hrz hG hcap
  have HN := Lib.hid (show ((w.alloc (.cells row.toArray 5)).drew).heap[w.heap.size]? = some (.cells row.toArray 5 (0, 0)) from by
    show (w.heap.push _)[w.heap.size]? = _
    simp)
  have HV1 := Lib.hid (show ((w.alloc (.cells row.toArray 5)).drew).heap[gv]? = some (.cells #[.int .u8 x] 5 (0, 0)) from (Below.heap_alloc w _ gv hbv).trans HV.out)
  have HG1 := Lib.hid (show ((w.alloc (.cells row.toArray 5)).drew).heap[g]? = some (.cells cur.toArray 5 (0, 0)) from (Below.heap_alloc w _ g hbg).trans HG.out)
  have HB1 := Lib.hid (show Below w.heap.size w ((w.alloc (.cells row.toArray 5)).drew) from ((Below.refl _ _).alloc (Nat.le_refl _) _).drew)
  have hn2 : 1 = Nat.min 1 (l.length + 1) := by show 1 = min 1 (l.length + 1); omega
  have HN2 := Lib.hid hn2
  have hf2 : 0 + 1 ≤ row.length := by rw [HRL.out]; omega
  have hn1 : XS.length = Nat.min l.length l.length := by rw [HXL.out]; exact (Nat.min_self _).symm
  have HN1 := Lib.hid hn1
  have hf1 : 1 + XS.length ≤ (splice row 0 [Value.int .u8 x]).length := by rw [length_splice _ _ _ hf2, HXL.out, HRL.out]; omega
  have hw1 : IntKind.i64.wrap 1 = 1 := by decide +kernel
  have hc1 : ¬ G = 1 := by omega
  have hc2 : ¬ G = 0 := by omega
  have hc0 : ¬ cap = 0 := by omega
  have hl1 : (1 : Int) ≤ (l.length : Int) + 1 := by omega
  have hl2 : (0 : Int) ≤ (l.length : Int) + 1 := by omega
  have hl3 : (0 : Int) ≤ (l.length : Int) := by omega
  clear hn2 hn1
  go_enter Try.func56, Try.ntmps56
  go_wp2_with (first
    | (at_builtin; refine Lib.wpList_append_run _ rfl _ _ _ _ rfl _ _ rfl rfl _ _ (HRZ.out _) ?_)
    | (refine next_cpy rfl (.tmp 43) (.tmp 44) rfl ⟨gv, 0, none⟩ (l.length + 1) G 1 1 w.heap.size 0 rfl rfl row HN.out [.int .u8 x] HN2.out (HVC.out _ HV1.out) hf2 (by simp [Value.oneCell']) ?_; intro w2 hg2 hgr2))
  have HG2 := Lib.hid (blk_grown HG1.out hgr2.out (by intro e; injection e with e; omega))
  go_region_law (refine step_cpy rfl (.tmp 50) (.tmp 53) rfl ⟨g, 0, none⟩ l.length (G - 1) l.length cap w.heap.size 1 (by simp [Act.eval, Act.put]) (by simp [Act.eval, Act.put]) (splice row 0 [Value.int .u8 x]) hg2.out XS HN1.out (HC.out _ HG2.out) hf1 HX1.out ?_; intro w3 hg3 hgr3)
  go_wp2_with fail
  go_ret
  have hbel : Below w.heap.size w w3 := (((HB1.out.grown hgr2.out HB1.out.size (fun k e => by injection e with e; omega)).drew).grown hgr3.out (by have := HB1.out.size; have := hgr2.out.size; simp at *; omega) (fun k e => by injection e with e; omega))
  refine ⟨_, rfl, ?_, hbel.mono hbs⟩
  have hT := take_splice2 row XS (.int .u8 x) (by have := HXL.out; have := HRL.out; omega)
  have hlen : (x :: l).length = l.length + 1 := rfl
  rw [← hlen]
  refine own_mk hbs (by rw [hlen]; exact hGn) hGm hg3.out ?_ ?_
  · rw [List.size_toArray, length_splice _ _ _ hf1, length_splice _ _ _ hf2, HRL.out]
  · show List.take (l.length + 1) _ = _
    rw [← HXL.out, hT, HXS.out]
    rfl
/-- slices.Insert(v, 0, x): v a row of one's own that holds some. -/
theorem insert_any (base gv : Nat) (v : Value) (l : List Int) (x : Int) (w : World) (ho : Own w base v l) (hl0 : 0 < l.length) (hl : l.length ≤ 1000000)
    (hv : w.heap[gv]? = some (.cells #[.int .u8 x] 5 (0, 0))) (hne : some gv ≠ v.ownBlock) (hbs : base ≤ w.heap.size) :
    Calls Try.prog 56 #[v, .int .i64 0, .slice (some ⟨gv, 0, none⟩) 1 1] w fun e w' => ∃ v, e = .returned v ∧ Own w' base v (x :: l) ∧ Below base w w' := by
  rcases own_cases ho with ⟨_, h⟩ | ⟨g, cap, rfl⟩
  · rw [h] at hl0; simp at hl0
  · by_cases hr : l.length + 1 ≤ cap
    · exact insert_room base g cap gv l x w ho hl0 hl hr hv (fun e => hne (by rw [e]; rfl))
    · exact insert_grow base g cap gv l x w ho hl0 hl hr hv hbs
end Go.Proofs.Ytdfpikimeihefaa
