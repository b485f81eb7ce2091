/-
  slices.Insert of one element, at any place of a row. No premise.
  slices.Clone of a part of a row that holds some. No premise.
  slices.Delete of one element, at any place of a row. No premise.
-/
import Derived.Test.YtfhonfeopkhdeaaProg
import Derived.Test.YtfhonfeopkhdeaaBtRw
import Derived.Lib.Overlaps
import Derived.Lib.AppendZerosOnto
import Derived.Laws.CopyOwn
import Derived.Laws.Externs
import Derived.Deep.RegionLaw
namespace Go.Proofs.Ytfhonfeopkhdeaa
open Go.RowKit Go.Proofs.YtfhonfeopkhdeaaW.PrintWords

theorem infoSU : (Try.prog.info? 38).map (·.size) = some 1 := by kernel_rfl
theorem infoBU : (Try.prog.info? 38).map (fun i => (i.zero, i.size, i.bytes)) = some (some (.int .u64 0), 1, 8) := by kernel_rfl
theorem step_cpyU {ops : Array Oper} {o : Oper} {a : Act} {w : World} {K : Act → World → Prop} {Q : Exit → Act → World → Prop} {E : Prop} (hgd : o.guard = none) (d s : Operand)
    (ho : o.op = .call { callee := .builtin .copy, args := #[d, s], argTypes := #[51, 51] })
    (ad : Addr) (dLen dCap sLen sCap : Nat) (g off : Nat) (hd : a.eval d = .slice (some ⟨g, off, none⟩) dLen dCap) (hs : a.eval s = .slice (some ad) sLen sCap)
    (cur : List Value) (hg : w.heap[g]? = some (.cells cur.toArray 38 (0, 0))) (cs : List Value) (hn : cs.length = Nat.min sLen dLen)
    (hsrc : ∀ j v, cs[j]? = some v → w.cell? (ad.add j) = some v) (hfit : off + cs.length ≤ cur.length) (h1 : ∀ v ∈ cs, v.oneCell' = true)
    (h : ∀ w', Hid (w'.heap[g]? = some (.cells (splice cur off cs).toArray 38 (0, 0))) → Hid (w.grownBy w' (some g)) → K (a.put o.dst (goInt cs.length)) w') :
    if Region.wanted o (yielded ops a.tmps) = true then Oper.wp Try.prog o a w K Q else E := by
  have hw : Region.wanted o (yielded ops a.tmps) = true := by simp [Region.wanted, hgd]
  rw [if_pos hw]
  have hrun := run_copy_row (P := Try.prog) w 51 51 o.type 38 g off dLen dCap ad sLen sCap cur.toArray 38 cs Try.underlying51 infoSU hg hn hsrc (by simpa using hfit) h1
  unfold Oper.wp
  simp [execOp, ho, resolve, invoke, builtin, hd, hs, hrun, Result.andThen]
  exact h _ (show _ = _ by simpa [splice] using setRow_heap w g _ _ 38 _ hg) ⟨rfl, rfl, rfl, by simp [World.setRow], fun k _ hk => setRow_other w g k _ (fun e => hk (by simp [e]))⟩
theorem next_cpyU {ops : Array Oper} {rest : List Oper} {o : Oper} {a : Act} {w : World} {Q : Exit → Act → World → Prop} (hgd : o.guard = none) (d s : Operand)
    (ho : o.op = .call { callee := .builtin .copy, args := #[d, s], argTypes := #[51, 51] })
    (ad : Addr) (dLen dCap sLen sCap : Nat) (g off : Nat) (hd : a.eval d = .slice (some ⟨g, off, none⟩) dLen dCap) (hs : a.eval s = .slice (some ad) sLen sCap)
    (cur : List Value) (hg : w.heap[g]? = some (.cells cur.toArray 38 (0, 0))) (cs : List Value) (hn : cs.length = Nat.min sLen dLen)
    (hsrc : ∀ j v, cs[j]? = some v → w.cell? (ad.add j) = some v) (hfit : off + cs.length ≤ cur.length) (h1 : ∀ v ∈ cs, v.oneCell' = true)
    (h : ∀ w', Hid (w'.heap[g]? = some (.cells (splice cur off cs).toArray 38 (0, 0))) → Hid (w.grownBy w' (some g)) → wpList Try.prog ops Q rest (a.put o.dst (goInt cs.length)) w') :
    wpList Try.prog ops Q (o :: rest) a w := by
  refine wpList_copy_own hgd d s 51 51 ho 38 Try.underlying51 infoSU g off dLen dCap ad sLen sCap hd hs cur.toArray 38 hg cs hn hsrc (by simpa using hfit) h1 ?_
  exact h _ (show _ = _ by simpa [splice] using setRow_heap w g _ _ 38 _ hg) ⟨rfl, rfl, rfl, by simp [World.setRow], fun k _ hk => setRow_other w g k _ (fun e => hk (by simp [e]))⟩
/-- slices.Insert(v, i, y): what it leaves. -/
def InsUP (v : Value) (xs : List Value) (i : Nat) (y : Value) (w : World) (e : Ending) (w' : World) : Prop :=
  ∃ v', e = .returned v' ∧ Rw w' 38 v' (xs.take i ++ y :: xs.drop i) ∧ w.grownBy w' v.ownBlock ∧ Nw w v v'
set_option maxRecDepth 100000 in
set_option maxHeartbeats 2000000 in
theorem insU_end (v : Value) (xs : List Value) (y : Value) (gv : Nat) (w : World) (hr : Rw w 38 v xs) (hx : One xs) (hy : y.oneCell' = true) (hl : xs.length ≤ 1000000)
    (hv : w.heap[gv]? = some (.cells #[y] 38 (0, 0))) :
    Calls Try.prog 77 #[v, .int .i64 xs.length, .slice (some ⟨gv, 0, none⟩) 1 1] w (InsUP v xs xs.length y w) := by
  obtain ⟨A, c, rfl, hc⟩ := hr.form
  obtain ⟨i0, hi0, hz0, hz1, hz2⟩ := info_parts infoBU
  have happ := fun ty => run_apR (P := Try.prog) (ys := [y]) hr 51 ty i0 (.int .u64 0) 8 Try.underlying51 hi0 hz0 hz1 hz2 (by rfl) ⟨gv, 0, none⟩ 1 1 rfl (fun j u hj => by
    rw [add_plain, blk_cell hv, ← hj]; simp) (by intro u hu; rcases List.mem_singleton.1 hu with rfl; exact hy) hx (by omega) (by unfold maxLen; omega) (by omega)
  obtain ⟨v', w', h1, h2, h3, h4⟩ := happ 51
  have H1 := Lib.hid h1
  clear happ h1 hr hv
  have hfin : InsUP (.slice A xs.length c) xs xs.length y w (.returned v') w' := by
    refine ⟨_, rfl, ?_, h3, h4⟩
    rw [List.take_length, List.drop_length]
    exact h2
  have HFIN := Lib.hid hfin
  clear h2 h3 h4 hfin
  rcases Nat.lt_or_eq_of_le hc with hc2 | rfl
  · have hc3 : ¬ c = xs.length := by omega
    go_enter Try.func77, Try.ntmps77
    go_wp2_with (at_builtin; refine Lib.wpList_append_run _ rfl _ _ _ _ rfl _ _ rfl rfl _ _ H1.out ?_)
    go_ret
    exact HFIN.out
  · go_enter Try.func77, Try.ntmps77
    go_wp2_with (at_builtin; refine Lib.wpList_append_run _ rfl _ _ _ _ rfl _ _ rfl rfl _ _ H1.out ?_)
    go_ret
    exact HFIN.out
set_option maxRecDepth 100000 in
set_option maxHeartbeats 2000000 in
theorem insU_room (g cap gv i : Nat) (xs : List Value) (y : Value) (w : World) (hr : Rw w 38 (.slice (some ⟨g, 0, none⟩) xs.length cap) xs) (hx : One xs) (hy : y.oneCell' = true) (hl : xs.length ≤ 1000000) (hi : i < xs.length) (hroom : xs.length + 1 ≤ cap)
    (hv : w.heap[gv]? = some (.cells #[y] 38 (0, 0))) (hne : gv ≠ g) :
    Calls Try.prog 77 #[.slice (some ⟨g, 0, none⟩) xs.length cap, .int .i64 i, .slice (some ⟨gv, 0, none⟩) 1 1] w (InsUP (.slice (some ⟨g, 0, none⟩) xs.length cap) xs i y w) := by
  rcases hr with ⟨h, _⟩ | ⟨g', cap', CUR, e1, hg, hlc, hcs, hm, hct⟩
  · cases h
  injection e1 with e1 e2 e3
  injection e1 with e1
  injection e1 with e1
  subst e1 e3
  clear e2
  have hcap : cap ≤ 9223372036854775807 := by simpa only [maxLen] using hm
  obtain ⟨cur, rfl⟩ : ∃ cur : List Value, CUR = cur.toArray := ⟨CUR.toList, by simp⟩
  simp only [List.size_toArray] at hcs
  have hct : cur.take xs.length = xs := hct
  obtain ⟨i0, hi0, hz0, hz1, hz2⟩ := info_parts infoBU
  have hov : ∀ la ca lb cb, (callFunc 97 #[.slice (some ⟨gv, 0, none⟩) la ca, .slice (some ⟨g, i + 1, none⟩) lb cb]).run Try.prog w = .ok (.value (.bool false)) w := fun la ca lb cb => by
    rw [run_callFunc_extern Try.func97 (by kernel_rfl) (by kernel_rfl) (by kernel_rfl) (e := Extern.SlicesOverlaps.overlaps #[51, 51] #[4]) (by kernel_rfl),
      Lib.run_overlaps_apart w 51 4 38 Try.underlying51 1 (fun w => by simp [sizeOf, typeInfo, hi0, hz1]) ⟨gv, 0, none⟩ ⟨g, i + 1, none⟩ la ca lb cb hne 38 38 1 cur.length
        (by simp [World.shape?, hv]) (by simp [World.shape?, hg]) (by omega) (blk_frozen hv 0) (blk_frozen hv 1)]
    rfl
  have hs1 := fun W => slice_lo (P := Try.prog) 51 38 Try.underlying51 hi0 hz1 g xs.length cap i _ rfl (by omega) (by omega) (by omega) W
  have hs2 := fun W => slice_lo (P := Try.prog) 51 38 Try.underlying51 hi0 hz1 g (xs.length + 1) cap i _ rfl (by omega) (by omega) (by omega) W
  have hs3 := fun W => slice_lo (P := Try.prog) 51 38 Try.underlying51 hi0 hz1 g (xs.length + 1) cap (i + 1) ((i : Int) + 1) (by omega) (by omega) (by omega) (by omega) W
  have hs4 := fun W => slice_hi (P := Try.prog) 51 38 Try.underlying51 hi0 hz1 g xs.length cap (xs.length + 1) ((xs.length : Int) + 1) (by omega) (by omega) W
  have hcell : ∀ W : World, W.heap[g]? = some (.cells cur.toArray 38 (0, 0)) → ∀ j v, (xs.drop i)[j]? = some v → W.cell? ((⟨g, i, none⟩ : Addr).add j) = some v := fun W hW j v hj => by
    rw [List.getElem?_drop] at hj
    have hjl := (List.getElem?_eq_some_iff.1 hj).1
    rw [addr_add, blk_cell hW, List.getElem?_toArray, ← hj, ← hct, List.getElem?_take, if_pos (by omega)]
  have hin : ¬ ((i : Int) = (xs.length : Int)) := by omega
  have hinb : ((i : Int) == (xs.length : Int)) = false := beq_eq_false_iff_ne.2 hin
  have hcr : ¬ (cap : Int) < (xs.length : Int) + 1 := by omega
  have hdl : (xs.drop i).length = xs.length - i := List.length_drop
  have hd1 : One (xs.drop i) := fun u hu => hx u (List.mem_of_mem_drop hu)
  have HG := Lib.hid hg
  have HV := Lib.hid hv
  have HCT := Lib.hid hct
  have HCS := Lib.hid hcs
  have HC := Lib.hid hcell
  have HDL := Lib.hid hdl
  have HD1 := Lib.hid hd1
  have HOV := Lib.hid hov
  have HS1 := Lib.hid hs1
  clear hg hv hct hcell hdl hd1 hov hcs
  go_enter Try.func77, Try.ntmps77
  go_wp2_with (simp only [HOV.out])
  have hn1 : (xs.drop i).length = Nat.min (xs.length + 1 - i) (xs.length + 1 - (i + 1)) := by rw [HDL.out]; show _ = min _ _; omega
  have HN1 := Lib.hid hn1
  have hf1 : i + 1 + (xs.drop i).length ≤ cur.length := by rw [HDL.out]; have := HCS.out; omega
  have HF1 := Lib.hid hf1
  clear hn1 hf1
  have hw1 : IntKind.i64.wrap ((i : Int) + 1) = (i : Int) + 1 := by rw [IntKind.wrap_i64]; omega
  have hw2 : (0 : Int) ≤ (i : Int) + 1 := by omega
  have hw3 : (i : Int) ≤ (xs.length : Int) := by omega
  have hw4 : (i : Int) ≤ (xs.length : Int) + 1 := by omega
  have hw5 : (i : Int) + 1 ≤ (xs.length : Int) + 1 := by omega
  have hw6 : ¬ cap = i + 1 := by omega
  have hw7 : ¬ cap = i := by omega
  have hw8 : ((i : Int) + 1).toNat = i + 1 := by omega
  go_region_law (refine step_cpyU rfl (.tmp 73) (.tmp 76) rfl ⟨g, i, none⟩ (xs.length + 1 - (i + 1)) (cap - (i + 1)) (xs.length + 1 - i) (cap - i) g (i + 1) (by simp [Act.eval, Act.put]) (by simp [Act.eval, Act.put]) cur HG.out (xs.drop i) HN1.out (HC.out _ HG.out) HF1.out HD1.out ?_; intro w2 hg2 hgr2)
  have HV2 := Lib.hid (blk_grown (show w.drew.heap[gv]? = _ from HV.out) hgr2.out (by intro e; injection e with e; exact hne e))
  have hn2 : 1 = Nat.min 1 (xs.length + 1 - i) := by show 1 = min 1 _; omega
  have HN2 := Lib.hid hn2
  have hf2 : i + 1 ≤ (splice cur (i + 1) (xs.drop i)).length := by rw [length_splice _ _ _ HF1.out]; have := HCS.out; omega
  have HF2 := Lib.hid hf2
  have HVC := Lib.hid (show ∀ j v, [y][j]? = some v → w2.cell? ((⟨gv, 0, none⟩ : Addr).add j) = some v from fun j v hj => by
    rw [add_plain, blk_cell HV2.out, ← hj]
    simp)
  clear hn2 hf2
  go_wp2_with (first | simp only [hs1, hs2, hs3, hs4] | (refine next_cpyU rfl (.tmp 80) (.tmp 81) rfl ⟨gv, 0, none⟩ (xs.length + 1 - i) (cap - i) 1 1 g i rfl rfl (splice cur (i + 1) (xs.drop i)) hg2.out [y] HN2.out HVC.out HF2.out (by intro u hu; rcases List.mem_singleton.1 hu with rfl; exact hy) ?_; intro w3 hg3 hgr3))
  go_ret
  have hts := (take_splice cur xs y i (by omega) (by have := HCS.out; omega) (by rw [← HCT.out, List.take_take, Nat.min_eq_left (by omega)])).1
  have hlen : (xs.take i ++ y :: xs.drop i).length = xs.length + 1 := by simp; omega
  refine ⟨_, rfl, ?_, ?_, .inl rfl⟩
  · rw [← hlen]
    refine Rw.mk hg3.out (by rw [hlen]; exact hroom) ?_ hm ?_
    · rw [List.size_toArray, length_splice _ _ _ HF2.out, length_splice _ _ _ HF1.out]
      exact HCS.out
    · rw [hlen]
      exact hts
  · have h1 := hgr2.out
    have h2 := hgr3.out
    exact ⟨h2.os.trans h1.os, h2.tape.trans (by rw [h1.tape]; rfl), h2.output.trans h1.output, Nat.le_trans h1.size h2.size, fun k hk hn => (h2.block k (Nat.lt_of_lt_of_le hk h1.size) hn).trans (h1.block k hk hn)⟩
set_option maxRecDepth 100000 in
set_option maxHeartbeats 2000000 in
theorem insU_grow (g cap gv i : Nat) (xs : List Value) (y : Value) (w : World) (hr : Rw w 38 (.slice (some ⟨g, 0, none⟩) xs.length cap) xs) (hx : One xs) (hy : y.oneCell' = true) (hl : xs.length ≤ 1000000) (hi : i < xs.length) (hroom : ¬ xs.length + 1 ≤ cap)
    (hv : w.heap[gv]? = some (.cells #[y] 38 (0, 0))) :
    Calls Try.prog 77 #[.slice (some ⟨g, 0, none⟩) xs.length cap, .int .i64 i, .slice (some ⟨gv, 0, none⟩) 1 1] w (InsUP (.slice (some ⟨g, 0, none⟩) xs.length cap) xs i y w) := by
  rcases hr with ⟨h, _⟩ | ⟨g', cap', CUR, e1, hg, hlc, hcs, hm, hct⟩
  · cases h
  injection e1 with e1 e2 e3
  injection e1 with e1
  injection e1 with e1
  subst e1 e3
  clear e2
  obtain rfl : cap = xs.length := by omega
  obtain ⟨cur, rfl⟩ : ∃ cur : List Value, CUR = cur.toArray := ⟨CUR.toList, by simp⟩
  simp only [List.size_toArray] at hcs
  have hct : cur.take xs.length = xs := hct
  obtain ⟨i0, hi0, hz0, hz1, hz2⟩ := info_parts infoBU
  obtain ⟨k, hk⟩ : ∃ k, k = xs.length + 1 - i := ⟨_, rfl⟩
  have hik : i + k = xs.length + 1 := by omega
  have htl : (xs.take i).length = i := by rw [List.length_take]; omega
  have hcell0 : ∀ W : World, W.heap[g]? = some (.cells cur.toArray 38 (0, 0)) → ∀ j v, (xs.take i)[j]? = some v → W.cell? ((⟨g, 0, none⟩ : Addr).add j) = some v := fun W hW j v hj => by
    have hjl := (List.getElem?_eq_some_iff.1 hj).1
    rw [List.getElem?_take, if_pos (by omega)] at hj
    rw [add_plain, blk_cell hW, List.getElem?_toArray, ← hj, ← hct, List.getElem?_take, if_pos (by omega)]
  have hold : (Builtin.firstCells i0.size i (.slice (some ⟨g, 0, none⟩) i xs.length)).run Try.prog w.drew = .ok (xs.take i).toArray w.drew := by
    rw [hz1]
    exact run_firstCells_some w.drew 1 i ⟨g, 0, none⟩ i xs.length (xs.take i) (by omega) (hcell0 w.drew hg)
  obtain ⟨G, hG⟩ : ∃ G, G = grownCap w (i + k) xs.length 38 := ⟨_, rfl⟩
  obtain ⟨ROW, hROW⟩ : ∃ ROW : Array Value, ROW = (xs.take i).toArray ++ Builtin.zeroCells ((.int .u64 0) : Value).cells k ++ Builtin.zeroCells ((.int .u64 0) : Value).cells (G - (i + k)) := ⟨_, rfl⟩
  have hrz : ∀ ty, (Builtin.append_ #[51, 3] ty #[.slice (some ⟨g, 0, none⟩) i xs.length, .int .i64 ((xs.length : Int) + 1 - (i : Int))]).run Try.prog w = .ok (.slice (some ⟨w.heap.size, 0, none⟩) (xs.length + 1) G) (w.drew.alloc (.cells ROW 38)) := fun ty => by
    have h := Lib.run_append_grow_zeros w 51 3 ty 38 i0 _ .i64 .i64 Try.underlying51 Try.underlying3 hi0 hz0 (some ⟨g, 0, none⟩) i xs.length (xs.take i) hold k (by omega) (by omega) (by omega) (by omega) (by rw [hz2]; omega) (by rw [hz2]; exact growslice_fits (by omega) (by omega))
    rw [← hG, ← hROW, hik] at h
    have e : (xs.length : Int) + 1 - (i : Int) = (k : Int) := by omega
    rw [e]
    exact h
  have hGn : xs.length + 1 ≤ G := by have := grownCap_ge w (i + k) xs.length 38; omega
  have hGm : G ≤ maxLen := by
    rw [hG]
    exact grownCap_le_maxLen w (i + k) xs.length 38 (by unfold maxLen; omega)
  have hRs : ROW.size = G := by
    rw [hROW]
    simp [Builtin.zeroCells, Value.cells]
    omega
  obtain ⟨row, hrow⟩ : ∃ row : List Value, row = ROW.toList := ⟨_, rfl⟩
  have hrow2 : ROW = row.toArray := by rw [hrow]
  have hrl : row.length = G := by rw [hrow, Array.length_toList, hRs]
  have hrt : row.take i = xs.take i := by
    rw [hrow, hROW]
    simp only [Array.toList_append, List.append_assoc]
    rw [List.take_append_of_le_length (by simp; omega)]
    exact List.take_of_length_le (by rw [List.length_take]; omega)
  rw [hrow2] at hrz
  have hGmax : G ≤ 9223372036854775807 := by simpa only [maxLen] using hGm
  have hbg : g < w.heap.size := blk_lt hg
  have hbv : gv < w.heap.size := blk_lt hv
  have hs1 := fun W => slice_lo (P := Try.prog) 51 38 Try.underlying51 hi0 hz1 g xs.length xs.length i _ rfl (by omega) (by omega) (by omega) W
  have hs2 := fun W => slice_lo (P := Try.prog) 51 38 Try.underlying51 hi0 hz1 w.heap.size (xs.length + 1) G i _ rfl (by omega) (by omega) (by omega) W
  have hs4 := fun W => slice_hi (P := Try.prog) 51 38 Try.underlying51 hi0 hz1 g xs.length xs.length i _ rfl (by omega) W
  have hcell : ∀ W : World, W.heap[g]? = some (.cells cur.toArray 38 (0, 0)) → ∀ j v, (xs.drop i)[j]? = some v → W.cell? ((⟨g, i, none⟩ : Addr).add j) = some v := fun W hW j v hj => by
    rw [List.getElem?_drop] at hj
    have hjl := (List.getElem?_eq_some_iff.1 hj).1
    rw [addr_add, blk_cell hW, List.getElem?_toArray, ← hj, ← hct, List.getElem?_take, if_pos (by omega)]
  have hin : ¬ ((i : Int) = (xs.length : Int)) := by omega
  have hinb : ((i : Int) == (xs.length : Int)) = false := beq_eq_false_iff_ne.2 hin
  have hcr : (xs.length : Int) < (xs.length : Int) + 1 := by omega
  have hdl : (xs.drop i).length = xs.length - i := List.length_drop
  have hd1 : One (xs.drop i) := fun u hu => hx u (List.mem_of_mem_drop hu)
  have HG := Lib.hid hg
  have HV := Lib.hid hv
  have HCT := Lib.hid hct
  have HCS := Lib.hid hcs
  have HC := Lib.hid hcell
  have HDL := Lib.hid hdl
  have HD1 := Lib.hid hd1
  have HRL := Lib.hid hrl
  have HRT := Lib.hid hrt
  have HRZ := Lib.hid hrz
  clear hg hv hct hcell hdl hd1 hcs hcell0 hold hROW hrow hrow2 hrl hrt hRs hrz hG hk hik htl
  have HN := Lib.hid (show ((w.alloc (.cells row.toArray 38)).drew).heap[w.heap.size]? = some (.cells row.toArray 38 (0, 0)) from by
    show (w.heap.push _)[w.heap.size]? = _
    simp)
  have HV1 := Lib.hid (show ((w.alloc (.cells row.toArray 38)).drew).heap[gv]? = some (.cells #[y] 38 (0, 0)) from (Below.heap_alloc w _ gv hbv).trans HV.out)
  have HG1 := Lib.hid (show ((w.alloc (.cells row.toArray 38)).drew).heap[g]? = some (.cells cur.toArray 38 (0, 0)) from (Below.heap_alloc w _ g hbg).trans HG.out)
  have HB1 := Lib.hid (show Below w.heap.size w ((w.alloc (.cells row.toArray 38)).drew) from ((Below.refl _ _).alloc (Nat.le_refl _) _).drew)
  have HVC := Lib.hid (show ∀ j v, [y][j]? = some v → ((w.alloc (.cells row.toArray 38)).drew).cell? ((⟨gv, 0, none⟩ : Addr).add j) = some v from fun j v hj => by
    rw [add_plain, blk_cell HV1.out, ← hj]
    simp)
  have hn2 : 1 = Nat.min 1 (xs.length + 1 - i) := by show 1 = min 1 _; omega
  have HN2 := Lib.hid hn2
  have hf2 : i + 1 ≤ row.length := by rw [HRL.out]; omega
  have HF2 := Lib.hid hf2
  have hn1 : (xs.drop i).length = Nat.min (xs.length - i) (xs.length + 1 - (i + 1)) := by rw [HDL.out]; show _ = min _ _; omega
  have HN1 := Lib.hid hn1
  have hf1 : i + 1 + (xs.drop i).length ≤ (splice row i [y]).length := by rw [length_splice _ _ _ hf2, HDL.out, HRL.out]; omega
  have HF1 := Lib.hid hf1
  clear hn1 hf1 hn2 hf2
  have hw1 : IntKind.i64.wrap ((i : Int) + 1) = (i : Int) + 1 := by rw [IntKind.wrap_i64]; omega
  have hw2 : (0 : Int) ≤ (i : Int) + 1 := by omega
  have hw3 : (i : Int) ≤ (xs.length : Int) := by omega
  have hw4 : (i : Int) ≤ (xs.length : Int) + 1 := by omega
  have hw5 : (i : Int) + 1 ≤ (xs.length : Int) + 1 := by omega
  have hw6 : ¬ G = i + 1 := by omega
  have hw7 : ¬ G = i := by omega
  have hw8 : ((i : Int) + 1).toNat = i + 1 := by omega
  have hw9 : ¬ xs.length = i := by omega
  go_enter Try.func77, Try.ntmps77
  go_wp2_with (first
    | (at_builtin; refine Lib.wpList_append_run _ rfl _ _ _ _ rfl _ _ rfl rfl _ _ (HRZ.out _) ?_)
    | simp only [hs1, hs2, hs4]
    | (refine next_cpyU rfl (.tmp 43) (.tmp 44) rfl ⟨gv, 0, none⟩ (xs.length + 1 - i) (G - i) 1 1 w.heap.size i rfl rfl row HN.out [y] HN2.out HVC.out HF2.out (by intro u hu; rcases List.mem_singleton.1 hu with rfl; exact hy) ?_; intro w2 hg2 hgr2))
  have HG2 := Lib.hid (blk_grown HG1.out hgr2.out (by intro e; injection e with e; omega))
  go_region_law (refine step_cpyU rfl (.tmp 50) (.tmp 53) rfl ⟨g, i, none⟩ (xs.length + 1 - (i + 1)) (G - (i + 1)) (xs.length - i) (xs.length - i) w.heap.size (i + 1) (by simp [Act.eval, Act.put]) (by simp [Act.eval, Act.put]) (splice row i [y]) hg2.out (xs.drop i) HN1.out (HC.out _ HG2.out) HF1.out HD1.out ?_; intro w3 hg3 hgr3)
  go_wp2_with fail
  go_ret
  have hbel : Below w.heap.size w w3 := (((HB1.out.grown hgr2.out HB1.out.size (fun k e => by injection e with e; omega)).drew).grown hgr3.out (by have := HB1.out.size; have := hgr2.out.size; simp at *; omega) (fun k e => by injection e with e; omega))
  have hts := (take_splice row xs y i (by omega) (by rw [HRL.out]; omega) HRT.out).2
  have hlen : (xs.take i ++ y :: xs.drop i).length = xs.length + 1 := by simp; omega
  refine ⟨_, rfl, ?_, ⟨hbel.os, hbel.tape, hbel.output, hbel.size, fun k hk _ => hbel.block k hk⟩, .inr ⟨_, rfl, Nat.le_refl _⟩⟩
  rw [← hlen]
  refine Rw.mk hg3.out (by rw [hlen]; exact hGn) ?_ hGm ?_
  · rw [List.size_toArray, length_splice _ _ _ HF1.out, length_splice _ _ _ HF2.out, HRL.out]
    exact Nat.le_refl _
  · rw [hlen]
    exact hts
/-- slices.Insert(v, i, y): v a row. -/
theorem insU_any (v : Value) (xs : List Value) (i : Nat) (y : Value) (gv : Nat) (w : World) (hr : Rw w 38 v xs) (hx : One xs) (hy : y.oneCell' = true) (hl : xs.length ≤ 1000000) (hi : i ≤ xs.length)
    (hv : w.heap[gv]? = some (.cells #[y] 38 (0, 0))) (hne : some gv ≠ v.ownBlock) :
    Calls Try.prog 77 #[v, .int .i64 i, .slice (some ⟨gv, 0, none⟩) 1 1] w (InsUP v xs i y w) := by
  rcases Nat.lt_or_eq_of_le hi with h | rfl
  · have hr2 := hr
    rcases hr2 with ⟨_, h2⟩ | ⟨g, cap, cur, rfl, _⟩
    · rw [h2] at h; simp at h
    · by_cases hroom : xs.length + 1 ≤ cap
      · exact insU_room g cap gv i xs y w hr hx hy hl h hroom hv (fun e => hne (by rw [e]; rfl))
      · exact insU_grow g cap gv i xs y w hr hx hy hl h hroom hv
  · exact insU_end v xs y gv w hr hx hy hl hv
end Go.Proofs.Ytfhonfeopkhdeaa

namespace Go.Proofs.Ytfhonfeopkhdeaa
open Go.RowKit Go.Proofs.YtfhonfeopkhdeaaW.PrintWords

set_option maxRecDepth 100000 in
set_option maxHeartbeats 1000000 in
theorem cloU_any (ad : Addr) (c : Nat) (ys : List Value) (w : World) (hc : ∀ j u, ys[j]? = some u → w.cell? (ad.add j) = some u) (h0 : 0 < ys.length) (hl : ys.length ≤ 1000000) :
    Calls Try.prog 79 #[.slice (some ad) ys.length c] w fun e w' => ∃ v, e = .returned v ∧ Rw w' 38 v ys ∧ Below w.heap.size w w' ∧ ∀ g, v.ownBlock = some g → w.heap.size ≤ g := by
  obtain ⟨i0, hi', hz0, hz1, hz2⟩ := info_parts infoBU
  have hB0 : Below w.heap.size w (w.alloc (.cells #[] 38)) := (Below.refl _ _).alloc (Nat.le_refl _) _
  have happ := fun ty => run_append_arg_grows (P := Try.prog) (w.alloc (.cells #[] 38)) 51 ty 38 i0 (.int .u64 0) 1 8 Try.underlying51 hi' hz0 hz1 hz2 (by rfl) (by decide) ⟨w.heap.size, 0, none⟩ 0 0 [] rfl (fun j u hj => by simp at hj) ad ys.length c ys (by omega) (fun j u hj => by
    have h1 := hc j u hj
    rw [World.cell?_of_block (w := w)]
    · exact h1
    · refine hB0.block _ ?_
      by_cases hlt : (ad.add j).block < w.heap.size
      · exact hlt
      · rw [World.cell?, Array.getElem?_eq_none (by omega)] at h1
        cases h1) (by omega) (by unfold maxLen; omega) (by omega)
  obtain ⟨v', w', h1, h2, h3⟩ := happ 51
  have hB : Below w.heap.size w w' := hB0.grown h3 hB0.size (fun k e => by cases e)
  have hown : ∀ g, v'.ownBlock = some g → w.heap.size ≤ g := fun g hg => by
    have := (World.ownsRow.lt h2 g hg).1
    have h4 := hB0.size
    omega
  have hrw : Rw w' 38 v' ys := Rw.of_own h2
  have H1 := Lib.hid h1
  have HF := Lib.hid (show ∃ v, (Ending.returned v') = .returned v ∧ Rw w' 38 v ys ∧ Below w.heap.size w w' ∧ ∀ g, v.ownBlock = some g → w.heap.size ≤ g from ⟨_, rfl, hrw, hB, hown⟩)
  clear happ h1 h2 h3 hB hown hrw hc hB0
  have hn := fun W => Lib.run_eql_slice_nil (P := Try.prog) W 51 38 (some ad) ys.length c 0 0 Try.underlying51
  go_enter Try.func79, Try.ntmps79
  go_wp2_with (at_builtin; refine Lib.wpList_append_run _ rfl _ _ _ _ rfl _ _ rfl rfl _ _ H1.out ?_)
  go_ret
  exact HF.out
end Go.Proofs.Ytfhonfeopkhdeaa

namespace Go.Proofs.Ytfhonfeopkhdeaa
open Go.RowKit Go.Proofs.YtfhonfeopkhdeaaW.PrintWords

theorem zeroU (w : World) : (zeroValue 38).run Try.prog w = .ok (.int .u64 0) w := by kernel_rfl
/-- slices.Delete(v, i, i + 1): what it leaves. -/
def DelUP (v : Value) (xs : List Value) (i : Nat) (w : World) (e : Ending) (w' : World) : Prop :=
  ∃ v', e = .returned v' ∧ Rw w' 38 v' (xs.take i ++ xs.drop (i + 1)) ∧ w.grownBy w' v.ownBlock ∧ v'.ownBlock = v.ownBlock
set_option maxRecDepth 100000 in
set_option maxHeartbeats 2000000 in
theorem delU_any (v : Value) (xs : List Value) (i : Nat) (w : World) (hr : Rw w 38 v xs) (hx : One xs) (hl : xs.length ≤ 1000000) (hi : i < xs.length) :
    Calls Try.prog 83 #[v, .int .i64 i, .int .i64 ((i : Int) + 1)] w (DelUP v xs i w) := by
  rcases hr with ⟨rfl, rfl⟩ | ⟨g, cap, CUR, rfl, hg, hlc, hcs, hm, hct⟩
  · simp at hi
  obtain ⟨n, hn⟩ : ∃ n, n = xs.length := ⟨_, rfl⟩
  rw [← hn] at hl hi hlc ⊢
  rw [← hn] at hct
  obtain ⟨i0, hi0, hz0, hz1, hz2⟩ := info_parts infoBU
  have hcap : cap ≤ 9223372036854775807 := by simpa only [maxLen] using hm
  obtain ⟨cur, rfl⟩ : ∃ cur : List Value, CUR = cur.toArray := ⟨CUR.toList, by simp⟩
  simp only [List.size_toArray] at hcs
  have hct2 : cur.take n = xs := hct
  have hs1 := fun W => slice_i (P := Try.prog) 51 38 Try.underlying51 hi0 hz1 g n cap i (i + 1) n (i : Int) ((i : Int) + 1) (n : Int) rfl (by omega) rfl (by omega) (by omega) (by omega) (by omega) W
  have hs2 := fun W => slice_hi (P := Try.prog) 51 38 Try.underlying51 hi0 hz1 g n cap i (i : Int) rfl (by omega) W
  obtain ⟨ad, had, hs3⟩ := slice_e (P := Try.prog) 51 38 Try.underlying51 hi0 hz1 g n cap (i + 1) ((i : Int) + 1) (by omega) (by omega) (by omega)
  have hs4 := fun W => slice_j (P := Try.prog) 51 38 Try.underlying51 hi0 hz1 g (n - 1) cap (n - 1) n ((n - 1 : Nat) : Int) (n : Int) rfl rfl (by omega) (by omega) (by omega) W
  have hD : (xs.drop (i + 1)).length = n - (i + 1) := by rw [List.length_drop, ← hn]
  have hD1 : One (xs.drop (i + 1)) := fun u hu => hx u (List.mem_of_mem_drop hu)
  have happ := fun ty => run_append_room_cells (P := Try.prog) w.drew 51 ty 38 i0 Try.underlying51 hi0 g 0 i cap ad (n - (i + 1)) (cap - (i + 1)) (xs.drop (i + 1)) (by rw [hz1, hD]; omega) (fun j u hj => by
      rw [List.getElem?_drop] at hj
      have hjl := (List.getElem?_eq_some_iff.1 hj).1
      rw [had (by omega), addr_add, show w.drew.cell? ⟨g, i + 1 + j, none⟩ = w.cell? ⟨g, i + 1 + j, none⟩ from rfl, blk_cell hg, List.getElem?_toArray, ← hj]
      conv => rhs; rw [← hct2]
      rw [List.getElem?_take, if_pos (by omega)]) hD1 (by omega) (fun j hj => by
      rw [show w.drew.cell? ⟨g, 0 + i * i0.size + j, none⟩ = w.cell? ⟨g, 0 + i * i0.size + j, none⟩ from rfl, blk_cell hg, hz1, List.getElem?_toArray, List.getElem?_eq_getElem (by omega)]
      rfl) (fun j hj => blk_frozen hg _)
  rw [hz1, Nat.mul_one, Nat.zero_add] at happ
  have eni : i + (n - (i + 1)) = n - 1 := by omega
  rw [eni] at happ
  obtain ⟨w1, hw1⟩ : ∃ w1, w1 = w.drew.setCells g i (xs.drop (i + 1)) := ⟨_, rfl⟩
  rw [← hw1] at happ
  obtain ⟨cur1, k1, k2, k3⟩ := setCells_row (xs.drop (i + 1)) i w.drew cur.toArray (show w.drew.heap[g]? = _ from hg) (by rw [hD, List.size_toArray]; omega)
  rw [← hw1] at k1
  have hcl := fun ty => Lib.run_clear_slice (P := Try.prog) w1 51 38 ty (.int .u64 0) Try.underlying51 zeroU rfl rfl g (n - 1) (n - (n - 1)) (cap - (n - 1)) (by omega) (fun j hj => by
      rw [blk_cell k1, Array.getElem?_eq_getElem (by rw [k2, List.size_toArray]; omega)]
      rfl) (fun j hj => blk_frozen k1 _)
  obtain ⟨w2, hw2⟩ : ∃ w2, w2 = w1.setCells g (n - 1) (List.replicate (n - (n - 1)) (.int .u64 0)) := ⟨_, rfl⟩
  rw [← hw2] at hcl
  obtain ⟨cur2, m1, m2, m3⟩ := setCells_row (List.replicate (n - (n - 1)) (.int .u64 0)) (n - 1) w1 cur1 k1 (by rw [List.length_replicate, k2, List.size_toArray]; omega)
  rw [← hw2] at m1
  have hfin : DelUP (.slice (some ⟨g, 0, none⟩) n cap) xs i w (.returned (.slice (some ⟨g, 0, none⟩) (n - 1) cap)) w2 := by
    have hlen : (xs.take i ++ xs.drop (i + 1)).length = n - 1 := by rw [List.length_append, List.length_take, hD, ← hn]; omega
    refine ⟨_, rfl, ?_, ?_, rfl⟩
    · rw [← hlen]
      refine Rw.mk m1 (by rw [hlen]; omega) (by rw [m2, k2, List.size_toArray]; omega) hm ?_
      have e1 : cur1.toList.take (n - 1) = xs.take i ++ xs.drop (i + 1) := by
        have hti : cur.take i = xs.take i := by rw [← hct2, List.take_take, Nat.min_eq_left (by omega)]
        rw [k3, ← hlen, show cur.toArray.toList = cur from rfl, hti]
        exact List.take_left
      rw [hlen, m3, List.append_assoc, List.take_append_of_le_length (by rw [List.length_take, Array.length_toList, k2, List.size_toArray]; omega), List.take_take, Nat.min_self]
      exact e1
    · obtain ⟨a1, a2, a3, a4⟩ := setCells_same g (xs.drop (i + 1)) i w.drew
      obtain ⟨b1, b2, b3, b4⟩ := setCells_same g (List.replicate (n - (n - 1)) (.int .u64 0)) (n - 1) w1
      rw [← hw1] at a1 a2 a3 a4
      rw [← hw2] at b1 b2 b3 b4
      refine ⟨b1.trans a1, b2.trans a2, b3.trans a3, by rw [b4, a4]; exact Nat.le_refl _, fun k _ hk => ?_⟩
      rw [hw2, setCells_far _ _ k (fun e => hk (by rw [e]; rfl)), hw1, setCells_far _ _ k (fun e => hk (by rw [e]; rfl))]
      rfl
  have HFIN := Lib.hid hfin
  have HAPP := Lib.hid happ
  have HCL := Lib.hid hcl
  have hin : ¬ ((i : Int) = (i : Int) + 1) := by omega
  have hinb : ((i : Int) == (i : Int) + 1) = false := beq_eq_false_iff_ne.2 hin
  have HN1 := Lib.hid (show (n - 1 : Nat) ≤ 1000000 by omega)
  have HN0 := Lib.hid hn
  clear hg hct hct2 hD hD1 k1 k2 k3 m1 m2 m3 hw1 hw2 hfin happ hcl had hx eni hn
  go_enter Try.func83, Try.ntmps83
  go_wp2_with (simp only [hs1, hs2, hs3, hs4])
  go_region_law (refine step_run rfl (.tmp 22) (.tmp 25) 51 51 rfl _ _ (by simp [Act.eval, Act.put]) (by simp [Act.eval, Act.put]) _ w1 (HAPP.out _) ?_)
  all_goals
    go_wp2_with (first | simp only [hs4] | simp only [HCL.out])
    go_ret
    exact HFIN.out
end Go.Proofs.Ytfhonfeopkhdeaa
