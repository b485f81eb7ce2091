/-
  slots.Put; slabvaultlaw04.plain. No premise.
-/
import Derived.Test.YtadmpjikkpnjnaaDoorSl4
namespace Go.Proofs.YtadmpjikkpnjnaaDoor
open Go.RowKit Go.Shelf Go.Proofs.YtadmpjikkpnjnaaDoorW.PrintWords

/-- Where Put writes, and what. -/
def spA (n : Nat) (r : Rt) : Nat := min n (32 * (r.g % 2).toNat)
def spX (n : Nat) (r : Rt) : List Int := List.replicate (32 * (r.g % 2).toNat - n) 0 ++ byL r
def spE (F : FM) (r : Rt) : Int := if rtOk r then wE F (spA F.b.length r) (spX F.b.length r) else 2
def spF (F : FM) (r : Rt) : FM := if rtOk r then wF F (spA F.b.length r) (spX F.b.length r) else F
theorem spX_bts (n : Nat) (r : Rt) : Bts (spX n r) := Bts.append (fun x hx => by rw [List.eq_of_mem_replicate hx]; decide) (byL_bts r)
theorem spX_length (n : Nat) {r : Rt} (h : rtOk r) : (spX n r).length = 32 * (r.g % 2).toNat - n + 32 := by unfold spX; rw [List.length_append, List.length_replicate, byL_length h]
theorem spX_le (n : Nat) {r : Rt} (hg : gOk r) : (spX n r).length ≤ 64 := by
  have := byL_le r
  unfold spX
  rw [List.length_append, List.length_replicate]
  omega
def PutSPost (o : Nat → Nat) (i p : Nat) (F : FM) (r : Rt) (w : World) (e : Ending) (w' : World) : Prop := ∃ o', e = .returned (.int .i64 (spE F r)) ∧ Upd o o' i w w' ∧ FileA w' o' i p (spF F r)
theorem fresh_row {o : Nat → Nat} {i : Nat} {w W : World} (hfr : Fr o w) (h0 : i ≠ 0) {A : Option Addr} {n c : Nat} {l : List Int} (ho : Own W w.heap.size (.slice A n c) l) : 0 < l.length → ∀ a, A = some a → o a.block ≠ i := fun h a ha => by
  rcases own_cases ho with ⟨_, e⟩ | ⟨g, cap, e⟩
  · rw [e] at h; simp at h
  · subst ha
    injection e with e1 e2 e3
    injection e1 with e1
    subst e1
    have := own_base ho g rfl
    rw [hfr g this]
    exact fun e => h0 e.symm
set_option maxRecDepth 100000 in
set_option maxHeartbeats 1600000 in
theorem slPut_any (o : Nat → Nat) (i : Nat) (h0 : i ≠ 0) (h9 : i ≠ 9) (p : Nat) (F : FM) (r : Rt) (w : World) (hF : FileA w o i p F) (hfr : Fr o w) (hok : FOk F) (hrl : F.raws.length ≤ 900000000) (hg : gOk r) (hT : TabAt w) :
    Calls Tryd.prog 21 #[.pointer (some ⟨p, 0, none⟩), r.v] w (PutSPost o i p F r w) := by
  have hlb : F.b.length ≤ 4200000 := by have := hok.len; have := hok.most; omega
  have hq : rdE F 0 0 ≠ 1 := by
    unfold rdE
    split
    · decide
    · split
      · decide
      · split <;> decide
  have HF := Lib.hid hF
  have HFR := Lib.hid hfr
  have HOK := Lib.hid hok
  have HG := Lib.hid hg
  have HT := Lib.hid hT
  have HRL := Lib.hid hrl
  have HRV := Lib.hid (show r.v = .agg #[.int .u64 r.g, .int .i64 r.pl, .int .i64 r.sz] from rfl)
  obtain ⟨hg1, hg2⟩ := hg
  obtain ⟨q, hq'⟩ : ∃ q, q = rdE F 0 0 := ⟨_, rfl⟩
  rw [← hq'] at hq
  have HQ := Lib.hid hq'
  have hrv : r.v = .agg #[.int .u64 r.g, .int .i64 r.pl, .int .i64 r.sz] := rfl
  rw [hrv]
  clear hF hfr hok hT hrl hq' hrv
  have HX0 := Lib.hid (heap_alloc_new w (.cells #[.int .u64 r.g, .int .i64 r.pl, .int .i64 r.sz] 24))
  have HB0 := Lib.hid ((Below.refl w.heap.size w).alloc (Nat.le_refl _) (.cells #[.int .u64 r.g, .int .i64 r.pl, .int .i64 r.sz] 24))
  go_enter Tryd.func21, Tryd.ntmps21
  go_wp2_with fail
  refine (read_any o i p F 0 0 _ (HF.out.below HB0.out) hlb (by decide) (by decide) (by decide) (by decide)).mono ?_
  rintro e w1 ⟨v1, rfl, ho1, hb1⟩
  rw [← HQ.out]
  have HB1 := Lib.hid (HB0.out.trans (hb1.mono HB0.out.size))
  have HX1 := Lib.hid ((hb1.block _ (Array.getElem?_eq_some_iff.1 HX0.out).1).trans HX0.out)
  clear ho1 hb1
  obtain ⟨⟨x0, x1, x2⟩, _⟩ := rt_cells HX1.out
  go_wp2_with fail
  rw [← HRV.out]
  refine (rtBytes_any r w1 HG.out (HT.out.below HB1.out (Nat.le_refl _))).mono ?_
  rintro e w2 ⟨v2, rfl, ho2, hb2⟩
  have HB2 := Lib.hid (HB1.out.trans (hb2.mono HB1.out.size))
  have HX2 := Lib.hid ((hb2.block _ (Array.getElem?_eq_some_iff.1 HX1.out).1).trans HX1.out)
  have ho2' := own_weaken ho2 HB1.out.size
  clear x0 x1 x2
  by_cases hr : rtOk r
  · have hE : byE r = 0 := by unfold byE; rw [if_pos hr]
    rw [hE]
    have hPE : spE F r = wE F (spA F.b.length r) (spX F.b.length r) := by unfold spE; rw [if_pos hr]
    have hPF : spF F r = wF F (spA F.b.length r) (spX F.b.length r) := by unfold spF; rw [if_pos hr]
    have HPE := Lib.hid hPE
    have HPF := Lib.hid hPF
    have HFB := Lib.hid (fun W (hW : Below w.heap.size w W) => HF.out.below hW)
    clear hE hPE hPF hb2 ho2
    obtain ⟨A2, c2, rfl, ho2'', hr2, hc2⟩ := own_split ho2'
    have HO2 := Lib.hid ho2''
    have HR2 := Lib.hid hr2
    have hbl := byL_length hr
    have HBL := Lib.hid hbl
    obtain ⟨⟨x0, x1, x2⟩, _⟩ := rt_cells HX2.out
    clear ho2' ho2'' hr2 hbl hr
    rcases (by omega : r.g % 2 = 0 ∨ r.g % 2 = 1) with hp | hp
    · have hsa : spA F.b.length r = 0 := by unfold spA; rw [hp]; simp
      have hsx : spX F.b.length r = byL r := by unfold spX; rw [hp]; simp
      have HSA := Lib.hid hsa
      have HSX := Lib.hid hsx
      clear hsa hsx
      go_wp2_with (go_at_call 33; refine (len_any o i p F w2 (HFB.out _ HB2.out)).mono ?_; rintro e w3 ⟨rfl, rfl⟩)
      refine (write_any o i h0 h9 p F 0 A2 c2 (byL r) w2 (HFB.out _ HB2.out) (HFR.out.mono HB2.out.size) HOK.out (by decide) (by decide) HR2.out (fresh_row HFR.out h0 HO2.out) (by rw [HBL.out]; decide) hc2 HRL.out).mono ?_
      rintro e w4 ⟨o4, rfl, hu4, hf4⟩
      have HU4 := Lib.hid ((Upd.quiet HFR.out HB2.out).trans hu4)
      have HF4 := Lib.hid hf4
      clear hu4 hf4
      go_wp2_with fail
      go_ret
      exact ⟨o4, by rw [HPE.out, HSA.out, HSX.out]; rfl, HU4.out, by rw [HPF.out, HSA.out, HSX.out]; exact HF4.out⟩
    · by_cases hln : F.b.length < 32
      · have hsa : spA F.b.length r = F.b.length := by unfold spA; rw [hp]; show min _ 32 = _; omega
        obtain ⟨n, hn⟩ : ∃ n, n = 32 - F.b.length := ⟨_, rfl⟩
        have hsx : spX F.b.length r = List.replicate n 0 ++ byL r := by unfold spX; rw [hp, hn]; rfl
        have hgap : (32 : Int) - (F.b.length : Int) = (n : Int) := by omega
        have hgap2 : (32 : Int) - (n : Int) = (F.b.length : Int) := by omega
        have hn0 : 0 < n := by omega
        have hn1 : n ≤ 32 := by omega
        have HSA := Lib.hid hsa
        have HSX := Lib.hid hsx
        have hmk := fun W => print_make (P := Tryd.prog) 25 5 .u8 1 Tryd.underlying25 infoB (by omega) n (by omega) W
        have HOM := Lib.hid (own_made w2 w.heap.size 5 .u8 n HB2.out.size (by omega))
        have HRM := Lib.hid (HR2.out.below ((Below.refl w2.heap.size w2).alloc (Nat.le_refl _) (.cells (madeCells #[.int .u8 0] n) 5)))
        have HBM := Lib.hid (HB2.out.alloc HB2.out.size (.cells (madeCells #[.int .u8 0] n) 5))
        clear hsa hsx hn hln
        go_wp2_with (first | (go_at_call 33; refine (len_any o i p F w2 (HFB.out _ HB2.out)).mono ?_; rintro e w3 ⟨rfl, rfl⟩) | (at_builtin; refine app w.heap.size rfl _ _ rfl (.slice (some ⟨w2.heap.size, 0, none⟩) n n) (List.replicate n 0) (byL r) A2 c2 ?hs ?hx ?HO ?HR ?hb ?hl ?h))
        case hs => rfl
        case hx => rfl
        case HO =>
          unfold Own
          rw [List.length_replicate]
          exact HOM.out
        case HR => exact HRM.out
        case hb => exact HBM.out.size
        case hl => rw [List.length_replicate, HBL.out]; omega
        intro v3 w3 ho3 hg3
        have HB3 := Lib.hid (HBM.out.grown hg3 HBM.out.size (fun k hk => by simp only [Value.ownBlock, Option.some.injEq] at hk; have := HB2.out.size; omega))
        obtain ⟨A3, c3, rfl, ho3', hr3, hc3⟩ := own_split ho3
        have HO3 := Lib.hid ho3'
        have HR3 := Lib.hid hr3
        have hxl : (List.replicate n 0 ++ byL r).length = n + 32 := by rw [List.length_append, List.length_replicate, HBL.out]
        have HXL := Lib.hid hxl
        have hl0 : -9223372036854775808 ≤ (F.b.length : Int) := by omega
        have hl1 : (F.b.length : Int) ≤ 9223372036854775807 := by omega
        clear ho3 ho3' hr3 hg3 hxl hmk
        obtain ⟨xb, hxb⟩ : ∃ xb, xb = List.replicate n 0 ++ byL r := ⟨_, rfl⟩
        rw [← hxb] at HO3 HR3 hc3 HSX HXL ⊢
        clear hxb
        go_wp2_with fail
        refine (write_any o i h0 h9 p F F.b.length A3 c3 xb w3 (HFB.out _ HB3.out) (HFR.out.mono HB3.out.size) HOK.out hl0 hl1 HR3.out (fresh_row HFR.out h0 HO3.out) (by rw [HXL.out]; omega) hc3 HRL.out).mono ?_
        rintro e w4 ⟨o4, rfl, hu4, hf4⟩
        have HU4 := Lib.hid ((Upd.quiet HFR.out HB3.out).trans hu4)
        have HF4 := Lib.hid hf4
        clear hu4 hf4
        go_wp2_with fail
        go_ret
        exact ⟨o4, by rw [HPE.out, HSA.out, HSX.out]; rfl, HU4.out, by rw [HPF.out, HSA.out, HSX.out]; exact HF4.out⟩
      · have hsa : spA F.b.length r = 32 := by unfold spA; rw [hp]; show min _ 32 = _; omega
        have hsx : spX F.b.length r = byL r := by unfold spX; rw [hp, show 32 * (1 : Int).toNat - F.b.length = 0 from by show 32 - _ = 0; omega]; rfl
        have HSA := Lib.hid hsa
        have HSX := Lib.hid hsx
        clear hsa hsx
        go_wp2_with (go_at_call 33; refine (len_any o i p F w2 (HFB.out _ HB2.out)).mono ?_; rintro e w3 ⟨rfl, rfl⟩)
        refine (write_any o i h0 h9 p F 32 A2 c2 (byL r) w2 (HFB.out _ HB2.out) (HFR.out.mono HB2.out.size) HOK.out (by decide) (by decide) HR2.out (fresh_row HFR.out h0 HO2.out) (by rw [HBL.out]; decide) hc2 HRL.out).mono ?_
        rintro e w4 ⟨o4, rfl, hu4, hf4⟩
        have HU4 := Lib.hid ((Upd.quiet HFR.out HB2.out).trans hu4)
        have HF4 := Lib.hid hf4
        clear hu4 hf4
        go_wp2_with fail
        go_ret
        exact ⟨o4, by rw [HPE.out, HSA.out, HSX.out]; rfl, HU4.out, by rw [HPF.out, HSA.out, HSX.out]; exact HF4.out⟩
  · have hE : byE r = 2 := by unfold byE; rw [if_neg hr]
    rw [hE]
    have hPE : spE F r = 2 := by unfold spE; rw [if_neg hr]
    have hPF : spF F r = F := by unfold spF; rw [if_neg hr]
    have HPE := Lib.hid hPE
    have HPF := Lib.hid hPF
    clear hE hPE hPF hr ho2 hb2 ho2'
    go_wp2_with fail
    go_ret
    exact ⟨o, by rw [HPE.out]; rfl, Upd.quiet HFR.out HB2.out, by rw [HPF.out]; exact HF.out.below HB2.out⟩
set_option maxHeartbeats 800000 in
theorem slPut_nil (r : Rt) (w : World) : Calls Tryd.prog 21 #[.pointer none, r.v] w fun e w' => e = .returned (.int .i64 1) ∧ Below w.heap.size w w' := by
  have hrv : r.v = .agg #[.int .u64 r.g, .int .i64 r.pl, .int .i64 r.sz] := rfl
  rw [hrv]
  go_enter Tryd.func21, Tryd.ntmps21
  go_wp2_with (go_at_call 37; refine (read_nil 0 0 _).mono ?_; rintro e w1 ⟨rfl, rfl⟩)
  go_ret
  exact ⟨rfl, (Below.refl _ _).alloc (Nat.le_refl _) _⟩
theorem plain_res {tmps : Array Value} {W : World} {p : Nat} {x1 x2 x3 : Value} (h2 : tmps[2]?.getD undef = .pointer (some ⟨p, 0, none⟩)) (hb : W.heap[p]? = some (.cells #[x1, x2, x3] 31 (0, 0))) :
    (results Tryd.f11 tmps).run Tryd.prog W = .ok (.agg #[x1, x2, x3]) W := by
  have c0 := blk_cell hb 0
  have c1 := blk_cell hb 1
  have c2 := blk_cell hb 2
  simp [results, Tryd.results11, go_sem, h2, c0, c1, c2]
set_option maxHeartbeats 800000 in
theorem plain_any (r : Rt) (w : World) : Calls Tryd.prog 11 #[r.v] w fun e w' => e = .returned r.v ∧ Below w.heap.size w w' := by
  have hrv : r.v = .agg #[.int .u64 r.g, .int .i64 r.pl, .int .i64 r.sz] := rfl
  rw [hrv]
  go_enter Tryd.func11, Tryd.ntmps11
  go_wp2_with fail
  exact ⟨rfl, _, plain_res rfl (heap_alloc_at _ _ (by simp)), rfl, ((Below.refl _ _).alloc (Nat.le_refl _) _).alloc (by simp) _⟩
end Go.Proofs.YtadmpjikkpnjnaaDoor
