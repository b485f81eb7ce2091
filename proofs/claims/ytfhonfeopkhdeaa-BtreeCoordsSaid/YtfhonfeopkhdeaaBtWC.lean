/-
  split: a child that is too full is parted. No premise.
-/
import Derived.Test.YtfhonfeopkhdeaaBtBC
import Derived.Test.YtfhonfeopkhdeaaRowGC
import Derived.Test.YtfhonfeopkhdeaaRowGU
import Derived.Test.YtfhonfeopkhdeaaRowGM
import Derived.Test.YtfhonfeopkhdeaaBtRw
import Derived.Deep.DeepCutAuto
import Derived.Deep.CutBlock
namespace Go.Proofs.Ytfhonfeopkhdeaa.BC
open Go.RowKit Go.Proofs.YtfhonfeopkhdeaaW.PrintWords

theorem rw_own {w : World} {e : TypeId} {v : Value} {xs : List Value} (h : Rw w e v xs) (h0 : 0 < xs.length) : ∃ g, v.ownBlock = some g := by
  rcases h with ⟨_, rfl⟩ | ⟨g, cap, cur, rfl, _⟩
  · simp at h0
  · exact ⟨g, rfl⟩
theorem csR_short {w : World} {n c g N : Nat} {e : TypeId} {l : List Nat} (h : Rw w e (.slice (some ⟨g, 0, none⟩) n c) (csR l)) (_hN : N = l.length) (m c' : Nat) (hm : m ≤ l.length) (hc : m ≤ c') (hc2 : c' ≤ c) : Rw w e (.slice (some ⟨g, 0, none⟩) m c') (csR (l.take m)) := by
  have := h.short (m := m) (c' := c') (by unfold csR; rw [List.length_map]; exact hm) hc hc2
  have e : csR (l.take m) = (csR l).take m := by unfold csR; rw [List.map_take]
  rw [e]; exact this
theorem ksR_short {w : World} {n c g N : Nat} {e : TypeId} {l : List Ky} (h : Rw w e (.slice (some ⟨g, 0, none⟩) n c) (ksR l)) (_hN : N = l.length) (m c' : Nat) (hm : m ≤ l.length) (hc : m ≤ c') (hc2 : c' ≤ c) : Rw w e (.slice (some ⟨g, 0, none⟩) m c') (ksR (l.take m)) := by
  have := h.short (m := m) (c' := c') (by unfold ksR; rw [List.length_map]; exact hm) hc hc2
  have e : ksR (l.take m) = (ksR l).take m := by unfold ksR; rw [List.map_take]
  rw [e]; exact this
theorem vsR_short {w : World} {n c g N : Nat} {e : TypeId} {l : List Int} (h : Rw w e (.slice (some ⟨g, 0, none⟩) n c) (vsR l)) (_hN : N = l.length) (m c' : Nat) (hm : m ≤ l.length) (hc : m ≤ c') (hc2 : c' ≤ c) : Rw w e (.slice (some ⟨g, 0, none⟩) m c') (vsR (l.take m)) := by
  have := h.short (m := m) (c' := c') (by unfold vsR; rw [List.length_map]; exact hm) hc hc2
  have e : vsR (l.take m) = (vsR l).take m := by unfold vsR; rw [List.map_take]
  rw [e]; exact this
def NdE (w : World) (o : Nat → Nat) (n : Nat) (F : Nf Ky) : Prop := ∃ vk vv vc, NdAt w o n vk vv vc F
theorem NdE.up {w w' : World} {o o' : Nat → Nat} {n : Nat} {F : Nf Ky} {S : Nat → Prop} (h : NdE w o n F) (u : Up S o o' w w') (h1 : ¬ S 1) (hn : ¬ S (n + 2)) : NdE w' o' n F := by
  obtain ⟨a, b, c, h⟩ := h
  exact ⟨a, b, c, h.up u h1 hn⟩
/-- Three nodes while one is parted. -/
structure Sp (w : World) (o : Nat → Nat) (a x y : Nat) (FA FX FY : Nf Ky) (wc : World) (oc : Nat → Nat) : Prop where
  na : NdE wc oc a FA
  nx : NdE wc oc x FX
  ny : NdE wc oc y FY
  up : Up (fun t => t = a + 2 ∨ t = x + 2) o oc w wc
  yn : w.heap.size ≤ y
theorem NdAt.kcells {w : World} {o : Nat → Nat} {n g c N : Nat} {vv vc : Value} {F : Nf Ky} (h : NdAt w o n (.slice (some ⟨g, 0, none⟩) N c) vv vc F) (q : Nat) : ∀ j u, (ksR (F.ks.drop q))[j]? = some u → w.cell? ((⟨g, q, none⟩ : Addr).add j) = some u := fun j u hj => by
  unfold ksR at hj
  rw [List.getElem?_map, List.getElem?_drop] at hj
  obtain ⟨g', e, hc⟩ := h.rk.cells (by
    unfold ksR
    rw [List.length_map]
    cases hx : F.ks[q + j]? with
    | none => rw [hx] at hj; cases hj
    | some z => have := (List.getElem?_eq_some_iff.1 hx).1; omega)
  cases e
  rw [addr_add]
  exact hc _ _ (by unfold ksR; rw [List.getElem?_map]; exact hj)
theorem NdAt.vcells {w : World} {o : Nat → Nat} {n g c N : Nat} {vk vc : Value} {F : Nf Ky} (h : NdAt w o n vk (.slice (some ⟨g, 0, none⟩) N c) vc F) (q : Nat) : ∀ j u, (vsR (F.vs.drop q))[j]? = some u → w.cell? ((⟨g, q, none⟩ : Addr).add j) = some u := fun j u hj => by
  unfold vsR at hj
  rw [List.getElem?_map, List.getElem?_drop] at hj
  obtain ⟨g', e, hc⟩ := h.rv.cells (by
    unfold vsR
    rw [List.length_map]
    cases hx : F.vs[q + j]? with
    | none => rw [hx] at hj; cases hj
    | some z => have := (List.getElem?_eq_some_iff.1 hx).1; omega)
  cases e
  rw [addr_add]
  exact hc _ _ (by unfold vsR; rw [List.getElem?_map]; exact hj)
theorem NdAt.ccells {w : World} {o : Nat → Nat} {n g c N : Nat} {vk vv : Value} {F : Nf Ky} (h : NdAt w o n vk vv (.slice (some ⟨g, 0, none⟩) N c) F) (q : Nat) : ∀ j u, (csR (F.cs.drop q))[j]? = some u → w.cell? ((⟨g, q, none⟩ : Addr).add j) = some u := fun j u hj => by
  unfold csR at hj
  rw [List.getElem?_map, List.getElem?_drop] at hj
  obtain ⟨g', e, hc⟩ := h.rc.cells (by
    unfold csR
    rw [List.length_map]
    cases hx : F.cs[q + j]? with
    | none => rw [hx] at hj; cases hj
    | some z => have := (List.getElem?_eq_some_iff.1 hx).1; omega)
  cases e
  rw [addr_add]
  exact hc _ _ (by unfold csR; rw [List.getElem?_map]; exact hj)
/-- A part of the keys, cloned; of the numbers; of the children. -/
theorem key_clo {w W : World} {o : Nat → Nat} {n g c L : Nat} {vv vc : Value} {F : Nf Ky} (h : NdAt w o n (.slice (some ⟨g, 0, none⟩) L c) vv vc F) (hL : F.ks.length = L) (hl : L ≤ 1000) (q r c' : Nat) (hq : q < L) (hr : r = L - q) (hb : Below w.heap.size w W) :
    Calls Try.prog 87 #[.slice (some ⟨g, q, none⟩) r c'] W fun e w' => ∃ v, e = .returned v ∧ Rw w' 22 v (ksR (F.ks.drop q)) ∧ Below W.heap.size W w' ∧ ∀ g, v.ownBlock = some g → W.heap.size ≤ g := by
  have e : (ksR (F.ks.drop q)).length = r := by unfold ksR; rw [List.length_map, List.length_drop]; omega
  rw [← e]
  refine cloC_any ⟨g, q, none⟩ c' (ksR (F.ks.drop q)) W (fun j u hj => ?_) (by omega) (by omega)
  have h1 := h.kcells q j u hj
  rw [World.cell?_of_block (w := w)]
  · exact h1
  · rw [addr_add]
    exact hb.block g (h.rk.lt rfl)
theorem val_clo {w W : World} {o : Nat → Nat} {n g c L : Nat} {vk vc : Value} {F : Nf Ky} (h : NdAt w o n vk (.slice (some ⟨g, 0, none⟩) L c) vc F) (hL : F.vs.length = L) (hl : L ≤ 1000) (q r c' : Nat) (hq : q < L) (hr : r = L - q) (hb : Below w.heap.size w W) :
    Calls Try.prog 79 #[.slice (some ⟨g, q, none⟩) r c'] W fun e w' => ∃ v, e = .returned v ∧ Rw w' 38 v (vsR (F.vs.drop q)) ∧ Below W.heap.size W w' ∧ ∀ g, v.ownBlock = some g → W.heap.size ≤ g := by
  have e : (vsR (F.vs.drop q)).length = r := by unfold vsR; rw [List.length_map, List.length_drop]; omega
  rw [← e]
  refine cloU_any ⟨g, q, none⟩ c' (vsR (F.vs.drop q)) W (fun j u hj => ?_) (by omega) (by omega)
  have h1 := h.vcells q j u hj
  rw [World.cell?_of_block (w := w)]
  · exact h1
  · rw [addr_add]
    exact hb.block g (h.rv.lt rfl)
theorem kid_clo {w W : World} {o : Nat → Nat} {n g c L : Nat} {vk vv : Value} {F : Nf Ky} (h : NdAt w o n vk vv (.slice (some ⟨g, 0, none⟩) L c) F) (hL : F.cs.length = L) (hl : L ≤ 1000) (q r c' : Nat) (hq : q < L) (hr : r = L - q) (hb : Below w.heap.size w W) :
    Calls Try.prog 88 #[.slice (some ⟨g, q, none⟩) r c'] W fun e w' => ∃ v, e = .returned v ∧ Rw w' 100 v (csR (F.cs.drop q)) ∧ Below W.heap.size W w' ∧ ∀ g, v.ownBlock = some g → W.heap.size ≤ g := by
  have e : (csR (F.cs.drop q)).length = r := by unfold csR; rw [List.length_map, List.length_drop]; omega
  rw [← e]
  refine cloM_any ⟨g, q, none⟩ c' (csR (F.cs.drop q)) W (fun j u hj => ?_) (by omega) (by omega)
  have h1 := h.ccells q j u hj
  rw [World.cell?_of_block (w := w)]
  · exact h1
  · rw [addr_add]
    exact hb.block g (h.rc.lt rfl)
theorem Sp.stepA {w wc w' : World} {o oc o' : Nat → Nat} {a x y : Nat} {FA FX FY FA' : Nf Ky} (h : Sp w o a x y FA FX FY wc oc) (hf : Fb o w) (hx : ¬ a = y ∧ ¬ a = x) {vk vv vc : Value} (hA : NdAt w' o' a vk vv vc FA') (hU : Up (· = a + 2) oc o' wc w') : Sp w o a x y FA' FX FY w' o' :=
  ⟨⟨_, _, _, hA⟩, h.nx.up hU (fun e => by omega) (fun e => by omega), h.ny.up hU (fun e => by omega) (fun e => by omega), h.up.trans hf hU (fun _ e => e) (fun _ _ e => .inl e), h.yn⟩
theorem Sp.stepX {w wc w' : World} {o oc o' : Nat → Nat} {a x y : Nat} {FA FX FY FX' : Nf Ky} (h : Sp w o a x y FA FX FY wc oc) (hf : Fb o w) (hx : ¬ x = y ∧ ¬ a = x) {vk vv vc : Value} (hX : NdAt w' o' x vk vv vc FX') (hU : Up (· = x + 2) oc o' wc w') : Sp w o a x y FA FX' FY w' o' :=
  ⟨h.na.up hU (fun e => by omega) (fun e => by omega), ⟨_, _, _, hX⟩, h.ny.up hU (fun e => by omega) (fun e => by omega), h.up.trans hf hU (fun _ e => e) (fun _ _ e => .inr e), h.yn⟩
theorem Sp.drew {w wc : World} {o oc : Nat → Nat} {a x y : Nat} {FA FX FY : Nf Ky} (h : Sp w o a x y FA FX FY wc oc) : Sp w o a x y FA FX FY wc.drew oc := by
  have u : Up (fun _ => False) oc oc wc wc.drew := Up.quiet h.up.fb (Below.refl _ _).drew
  exact ⟨h.na.up u id id, h.nx.up u id id, h.ny.up u id id, ⟨h.up.os, h.up.tape, h.up.output, h.up.size, h.up.blk, h.up.old, u.fb⟩, h.yn⟩
theorem NdAt.apart {w W : World} {o : Nat → Nat} {n x : Nat} {vk vv vc xk xv xc : Value} {F G : Nf Ky} (_hA : NdAt w o n vk vv vc F) (hX : NdAt w o x xk xv xc G) (hne : ¬ n = x) {row : Option Nat} (hr : ∀ g, row = some g → g < w.heap.size → o g = n + 2) (hg : w.grownBy W row) : NdAt W o x xk xv xc G :=
  hX.keep fun b hb ht => ⟨hg.block b hb (fun e => by have := hr b e.symm hb; omega), rfl⟩
theorem NdAt.store {w : World} {o : Nat → Nat} {n x j : Nat} {xk xv xc u : Value} {G : Nf Ky} (hn : o n = n + 2) (hX : NdAt w o x xk xv xc G) (hne : ¬ n = x) : NdAt (w.setCell ⟨n, j, none⟩ u) o x xk xv xc G :=
  hX.keep fun b hb ht => ⟨Below.heap_setCell w ⟨n, j, none⟩ u b (fun e => by rw [show b = n from e] at ht; omega), rfl⟩
theorem NdAt.k2 {w : World} {o : Nat → Nat} {n N c g : Nat} {vv vc : Value} {F : Nf Ky} (h : NdAt w o n (.slice (some ⟨g, 0, none⟩) N c) vv vc F) {i : Nat} (hi : i < F.ks.length) {k : Ky} (e : F.ks[i] = k) : w.cell? ⟨n, 0, none⟩ = some (.slice (some ⟨g, 0, none⟩) N c) ∧ w.cell? ⟨g, i, none⟩ = some (kv k) := by
  obtain ⟨g', e', h1, _⟩ := h.kcell hi
  cases e'
  exact ⟨h.cells.1, e ▸ h1⟩
theorem NdAt.v2 {w : World} {o : Nat → Nat} {n N c g : Nat} {vk vc : Value} {F : Nf Ky} (h : NdAt w o n vk (.slice (some ⟨g, 0, none⟩) N c) vc F) {i : Nat} (hi : i < F.vs.length) {k : Int} (e : F.vs[i] = k) : w.cell? ⟨n, 1, none⟩ = some (.slice (some ⟨g, 0, none⟩) N c) ∧ w.cell? ⟨g, i, none⟩ = some (.int .u64 k) := by
  obtain ⟨g', e', h1, _⟩ := h.vcell hi
  cases e'
  exact ⟨h.cells.2.1, e ▸ h1⟩
theorem ok_grown {w w2 : World} {o : Nat → Nat} {n : Nat} {v vv vc : Value} {F : Nf Ky} {k : Ky} (h : NdAt w o n v vv vc F) (hk : KOk w o k) (hg : w.grownBy w2 v.ownBlock) : KOk w2 o k :=
  hk.keep fun b hb ht => ⟨hg.block b hb (fun e => by have := h.tk b e.symm; omega), ht⟩
def SplitP (w : World) (o : Nat → Nat) (a x : Nat) (FA FX : Nf Ky) (i q : Nat) (kq : Ky) (vq : Int) (e : Ending) (w' : World) : Prop :=
  e = .returned (.tuple #[]) ∧ ∃ y o', Sp w o a x y ⟨FA.ks.take i ++ kq :: FA.ks.drop i, FA.vs.take i ++ vq :: FA.vs.drop i, FA.cs.take (i + 1) ++ y :: FA.cs.drop (i + 1)⟩
    ⟨FX.ks.take q, FX.vs.take q, FX.cs.take (q + 1)⟩ ⟨FX.ks.drop (q + 1), FX.vs.drop (q + 1), FX.cs.drop (q + 1)⟩ w' o'
set_option maxRecDepth 100000 in
set_option maxHeartbeats 4000000 in
theorem split_any (rv : Value) (a x i q L : Nat) (w : World) (o : Nat → Nat) (FA FX : Nf Ky) (hf : Fb o w) (ha : NdE w o a FA) (hx : NdE w o x FX) (hax : a ≠ x) (hi : i < FA.cs.length) (hix : FA.cs[i]? = some x) (hik : i ≤ FA.ks.length) (hkv : FA.vs.length = FA.ks.length) (hla : FA.cs.length ≤ 1000 ∧ FA.ks.length ≤ 1000)
    (hL1 : FX.ks.length = L) (hL2 : FX.vs.length = L) (hLl : L ≤ 999) (hq : q = L / 2) (hq1 : q + 1 < L) (hcs : FX.cs = [] ∨ FX.cs.length = L + 1) (kq : Ky) (vq : Int) (hkq : FX.ks[q]? = some kq) (hvq : FX.vs[q]? = some vq) :
    Calls Try.prog 65 #[rv, nv a, .int .i64 i] w (SplitP w o a x FA FX i q kq vq) := by
  obtain ⟨ak, av, ac, hA⟩ := ha
  obtain ⟨xk, xv, xc, hX⟩ := hx
  have HA := Lib.hid hA
  obtain ⟨ca0, ca1, ca2⟩ := hA.cells
  obtain ⟨cx0, cx1, cx2⟩ := hX.cells
  obtain ⟨A1, c1, A2, c2, A3, c3, rfl, rfl, rfl, q1, q2, q3⟩ := hA.row
  obtain ⟨B1, d1, B2, d2, B3, d3, rfl, rfl, rfl, r1, r2, r3⟩ := hX.row
  obtain ⟨gc, rfl, hc1, hc2⟩ := hA.ccell hi
  rw [List.getElem?_eq_getElem hi, Option.some.injEq] at hix
  rw [hix] at hc1
  obtain ⟨gk, rfl, -⟩ := hX.kcell (i := q) (by omega)
  obtain ⟨gv, rfl, -⟩ := hX.vcell (i := q) (by omega)
  have hi1 : (i : Int) < (FA.cs.length : Int) := by omega
  rw [hL1] at cx0 r1
  rw [hL2] at cx1 r2
  rw [hL1, hL2] at hX
  have HX := Lib.hid hX
  have hqq : ((L : Int).tdiv 2) = (q : Int) := by rw [Int.tdiv_eq_ediv_of_nonneg (by omega)]; omega
  have HIX := Lib.hid hix
  have HQ := Lib.hid hq
  have HL1 := Lib.hid hL1
  have HL2 := Lib.hid hL2
  have HCS := Lib.hid hcs
  have HKV := Lib.hid hkv
  have HF := Lib.hid hf
  have HKQ := Lib.hid hkq
  have HVQ := Lib.hid hvq
  clear hkq hvq hix hq hL1 hL2 hcs hkv hA hX hf
  unfold nv at *
  go_enter Try.func65, Try.ntmps65
  go_upto_region 2 with (fail)
  go_cut [8] (fun s8 wc => ∃ (y : Nat) (oc : Nat → Nat), s8 = .pointer (some ⟨y, 0, none⟩) ∧ Hid (Sp w o a x y FA FX ⟨FX.ks.drop (q + 1), FX.vs.drop (q + 1), []⟩ wc oc))
  case first =>
    have HCK := Lib.hid (fun W hW => key_clo HX.out HL1.out (by omega) (q + 1) (L - (q + 1)) (d1 - (q + 1)) hq1 rfl (W := W) hW)
    have HCV := Lib.hid (fun W hW => val_clo HX.out HL2.out (by omega) (q + 1) (L - (q + 1)) (d2 - (q + 1)) hq1 rfl (W := W) hW)
    have HCL := Lib.hid (show ∀ W, Below w.heap.size w W → W.cell? ⟨x, 1, none⟩ = some (.slice (some ⟨gv, 0, none⟩) L d2) from fun W hW => by
      have := (HX.out.hold (below_grown hW none) (by simp)).2.1
      exact this)
    have HB0 := Lib.hid (show Below w.heap.size w w.drew from (Below.refl _ _).drew)
    have hw1 : IntKind.i64.wrap ((q : Int) + 1) = (q : Int) + 1 := by rw [IntKind.wrap_i64]; omega
    have hw2 : (0 : Int) ≤ (q : Int) + 1 := by omega
    have hw3 : (q : Int) + 1 ≤ (L : Int) := by omega
    have hw6 : ¬ d1 = q + 1 := by omega
    have hw7 : ¬ d2 = q + 1 := by omega
    have hw8 : ((q : Int) + 1).toNat = q + 1 := by omega
    clear ca0 ca1 ca2 cx2 hc1 hc2
    go_region_law (first
      | (go_simp; go_at_call 87; refine (HCK.out _ HB0.out).mono ?_; rintro e w1 ⟨vk', rfl, hr1, hb1, hn1⟩; have HB1 := Lib.hid (HB0.out.trans (hb1.mono (Nat.le_refl _))); obtain ⟨Ak, lk, ck, rfl⟩ := rw_slice hr1; have c5 := HCL.out _ HB1.out)
      | (go_simp; go_at_call 79; refine (HCV.out _ HB1.out).mono ?_; rintro e w2 ⟨vv', rfl, hr2, hb2, hn2⟩; obtain ⟨Av, lv, cv, rfl⟩ := rw_slice hr2))
    all_goals
      go_wp2_with fail
      go_meet
      case rel =>
        have hb02 : Below w.heap.size w w2 := HB1.out.trans (hb2.mono HB1.out.size)
        obtain ⟨hy, hu⟩ := nd_new HF.out hb02 (hr1.keep fun g _ hl => hb2.block g hl) hr2 (fun g hg => hn1 g hg) (fun g hg => Nat.le_trans HB1.out.size (hn2 g hg)) (fun k hk => HX.out.ok k (List.mem_of_mem_drop hk))
        exact ⟨w2.heap.size, _, rfl, Lib.hid ⟨⟨_, _, _, HA.out.up hu (fun h => h) (fun h => h)⟩, ⟨_, _, _, HX.out.up hu (fun h => h) (fun h => h)⟩, ⟨_, _, _, hy⟩, hu.mono (fun _ h => h.elim), hb02.size⟩⟩
  case rest =>
    obtain ⟨y, oc, rfl, HS⟩ := hcut
    have HXO := Lib.hid HX.out.lt
    have HAO := Lib.hid HA.out.lt
    clear ca0 ca1 ca2 cx0 cx1 cx2 hc1 hc2 HA HX q1 q2 q3 r3 HIX
    obtain ⟨xk, xv, xc, hX⟩ := HS.out.nx
    obtain ⟨cx0, cx1, cx2⟩ := hX.cells
    obtain ⟨B1, e1, B2, e2, B3, e3, rfl, rfl, rfl, r1', r2', r3⟩ := hX.row
    have HX := Lib.hid hX
    clear hX cx0 cx1
    have hy : ¬ y = x := fun e => by
      have h1 := HS.out.yn
      have h2 := HS.out.up.size
      have := HXO.out
      omega
    have hy' : ¬ x = y := fun e => hy e.symm
    have HAY := Lib.hid (show ¬ a = y ∧ ¬ a = x from ⟨fun e => by
      have h1 := HS.out.yn
      have := HAO.out
      omega, hax⟩)
    obtain ⟨yk, yv, yc, hY⟩ := HS.out.ny
    have HY := Lib.hid hY
    clear hY
    go_upto_if 45 with (fail)
    go_cut [] (fun wc2 => ∃ oc2, Hid (Sp w o a x y FA ⟨FX.ks, FX.vs, FX.cs.take (q + 1)⟩ ⟨FX.ks.drop (q + 1), FX.vs.drop (q + 1), FX.cs.drop (q + 1)⟩ wc2 oc2))
    case first =>
      rcases HCS.out with hcs | hcs
      · have HCE := Lib.hid hcs
        have hz : FX.cs.length = 0 := by rw [hcs]; rfl
        clear hcs cx2
        go_wp2_with fail
        go_meet
        case rel =>
          have e1 : FX.cs.take (q + 1) = FX.cs := by rw [HCE.out]; rfl
          have e2 : FX.cs.drop (q + 1) = [] := by rw [HCE.out]; rfl
          rw [e1, e2]
          exact ⟨oc, HS⟩
      · obtain ⟨gx, rfl, -⟩ := HX.out.ccell (i := 0) (by omega)
        obtain ⟨i0, hi0, hz0, hz1, hz2⟩ := info_parts infoBM
        have hs1 := fun W => slice_lo (P := Try.prog) 104 100 Try.underlying104 hi0 hz1 gx FX.cs.length e3 (q + 1) ((q : Int) + 1) (by omega) (by omega) (by omega) (by omega) W
        have hs2 := fun W => slice_hm (P := Try.prog) 104 100 Try.underlying104 hi0 hz1 gx FX.cs.length e3 (q + 1) ((q : Int) + 1) (by omega) (by omega) W
        have HCK := Lib.hid (kid_clo HX.out rfl (by omega) (q + 1) (FX.cs.length - (q + 1)) (e3 - (q + 1)) (by omega) rfl (Below.refl _ _))
        have hpos : (0 : Int) < (FX.cs.length : Int) := by omega
        have HCE := Lib.hid hcs
        clear hcs hz0 hz2
        go_upto_region 5 with ((go_at_call 88; refine HCK.out.mono ?_; rintro e w1 ⟨vc', rfl, hr1, hb1, hn1⟩; obtain ⟨Ac, lc, cc, rfl⟩ := rw_slice hr1; obtain ⟨f1, f2, f3, f4⟩ := HY.out.hold (below_grown hb1 none) (by simp); have f5 := f4 2))
        obtain ⟨gn, hgn⟩ := rw_own hr1 (by unfold csR; rw [List.length_map, List.length_drop]; have := HCE.out; omega)
        obtain ⟨hY4, hU4⟩ := HY.out.sc (mid_plain HS.out.up.fb (Below.refl _ _) (below_grown hb1 _) (.inr ⟨gn, hgn, hn1 gn hgn⟩)) hr1
        have hX4 := HX.out.up hU4 (fun e => by omega) (fun e => hy' (by omega))
        have HY4 := Lib.hid hY4
        have HX4 := Lib.hid hX4
        have HU4 := Lib.hid hU4
        clear hY4 hX4 hU4 f1 f2 f3 f4 f5 hgn hn1 hr1 HCK hs1 cx2
        obtain ⟨w4, hw4⟩ : ∃ w4, w4 = w1.setCell ⟨y, 2, none⟩ (.slice Ac lc cc) := ⟨_, rfl⟩
        rw [← hw4] at HY4 HX4 HU4 ⊢
        clear hw4 hb1
        have f1 := HX4.out.cells.2.2
        have f2 := blk_frozen HX4.out.blk 2
        go_wp2_with (simp only [hs2])
        go_meet
        case rel =>
          have hsh := csR_short HX4.out.rc rfl (q + 1) (q + 1) (by have := HCE.out; omega) (by omega) (by have := HCE.out; omega)
          obtain ⟨hX5, hU5⟩ := HX4.out.sc (v' := .slice (some ⟨gx, 0, none⟩) (q + 1) (q + 1)) (mid_plain HU4.out.fb (Below.refl _ _) (below_grown (Below.refl _ _) _) (.inl rfl)) hsh
          have hU := HU4.out.trans HS.out.up.fb hU5 (U := fun t => t = x + 2 ∨ t = y + 2) (fun _ e => .inr e) (fun _ _ e => .inl e)
          obtain ⟨ak, av, ac, hA⟩ := HS.out.na
          exact ⟨_, Lib.hid ⟨⟨_, _, _, hA.up hU (fun e => by omega) (fun e => by
              have := HAY.out
              omega)⟩, ⟨_, _, _, hX5⟩, ⟨_, _, _, HY4.out.up hU5 (fun e => by omega) (fun e => hy (by omega))⟩,
            HS.out.up.trans HF.out hU (fun _ e => e) (fun t ht e => by
              have := HS.out.yn
              omega), HS.out.yn⟩⟩
    case rest =>
      clear HS HX HY cx2 r1' r2' r3
      obtain ⟨oc2, HS⟩ := hcut
      obtain ⟨ak, av, ac, hA⟩ := HS.out.na
      obtain ⟨xk, xv, xc, hX⟩ := HS.out.nx
      obtain ⟨A1, c1, A2, c2, A3, c3, rfl, rfl, rfl, q1, q2, q3⟩ := hA.row
      obtain ⟨B1, d1, B2, d2, B3, d3, rfl, rfl, rfl, p1, p2, p3⟩ := hX.row
      obtain ⟨gk, rfl, hc1, hc2⟩ := hX.kcell (i := q) (by show q < FX.ks.length; have := HL1.out; omega)
      have hkq2 : (⟨FX.ks, FX.vs, FX.cs.take (q + 1)⟩ : Nf Ky).ks[q]'(by show q < FX.ks.length; have := HL1.out; omega) = kq := by
        have := HKQ.out
        rw [List.getElem?_eq_getElem (by have := HL1.out; omega), Option.some.injEq] at this
        exact this
      rw [hkq2] at hc1
      obtain ⟨ca0, -, -⟩ := hA.cells
      obtain ⟨cx0, -, -⟩ := hX.cells
      have hi0 : (q : Int) < ((⟨FX.ks, FX.vs, FX.cs.take (q + 1)⟩ : Nf Ky).ks.length : Int) := by show (q : Int) < (FX.ks.length : Int); have := HL1.out; omega
      have HA := Lib.hid hA
      have HX := Lib.hid hX
      have HKE := Lib.hid hkq2
      clear hA hX hkq2
      unfold kv at hc1
      go_upto_region 6 with (fail)
      go_cut [] (fun wc3 => ∃ oc3, Hid (Sp w o a x y ⟨FA.ks.take i ++ kq :: FA.ks.drop i, FA.vs, FA.cs⟩ ⟨FX.ks, FX.vs, FX.cs.take (q + 1)⟩ ⟨FX.ks.drop (q + 1), FX.vs.drop (q + 1), FX.cs.drop (q + 1)⟩ wc3 oc3))
      case first =>
        have HB0 := Lib.hid (show Below wc.heap.size wc wc.drew from (Below.refl _ _).drew)
        have HKI := Lib.hid (key_ins HA.out (by omega) hik wc.drew kq HB0.out)
        have HB1 := Lib.hid (HB0.out.alloc HB0.out.size (.cells #[kv kq] 22))
        have HKK := Lib.hid (fun W B C (h : NdAt W oc2 x (.slice (some ⟨gk, 0, none⟩) FX.ks.length d1) B C ⟨FX.ks, FX.vs, FX.cs.take (q + 1)⟩) => h.k2 (i := q) (by show q < FX.ks.length; have := HL1.out; omega) HKE.out)
        have hS0 := And.intro (HA.out.hold (below_grown HB0.out none) (by simp)).1 (HKK.out _ _ _ (HA.out.apart HX.out hax (fun g e _ => HA.out.tk g e) (below_grown HB0.out _)))
        have hS1 := And.intro (HA.out.hold (below_grown HB1.out none) (by simp)).1 (HKK.out _ _ _ (HA.out.apart HX.out hax (fun g e _ => HA.out.tk g e) (below_grown HB1.out _)))
        unfold kv at HKI hS0 hS1
        refine wp_region_Z (fun W' => W'.cell? ⟨a, 0, none⟩ = some (.slice A1 FA.ks.length c1) ∧ W'.cell? ⟨x, 0, none⟩ = some (.slice (some ⟨gk, 0, none⟩) FX.ks.length d1) ∧ W'.cell? ⟨gk, q, none⟩ = some (.slice (kq).A (kq).l.length (kq).c)) 17 (by kernel_rfl) ?_
        refine wpZ_take (i := 0) (v := ?_) rfl (by kernel_rfl) (by kernel_rfl) (by kernel_rfl) (by kernel_rfl) (fun _ _ _ h => h) (Or.inl ⟨by rfl, ?_⟩) (by assumption) ?_
        rotate_left
        · (intro wS hSw; (try dsimp only at hSw); go_simp; (try (with_reducible rfl)))
        try simp only [Act.put, List.setIfInBounds_toArray]
        refine wpZ_take (i := 1) (v := ?_) rfl (by kernel_rfl) (by kernel_rfl) (by kernel_rfl) (by kernel_rfl) (fun _ _ _ h => h) (Or.inl ⟨by rfl, ?_⟩) (by assumption) ?_
        rotate_left
        · (intro wS hSw; (try dsimp only at hSw); go_simp; (try (with_reducible rfl)))
        try simp only [Act.put]
        refine wpZ_take (i := 2) (v := ?_) rfl (by kernel_rfl) (by kernel_rfl) (by kernel_rfl) (by kernel_rfl) (fun _ _ _ h => h) (Or.inl ⟨by rfl, ?_⟩) (by assumption) ?_
        rotate_left
        · (intro wS hSw; (try dsimp only at hSw); go_simp; (try (with_reducible rfl)))
        try simp only [Act.put]
        refine wpZ_take (i := 3) (v := ?_) rfl (by kernel_rfl) (by kernel_rfl) (by kernel_rfl) (by kernel_rfl) (fun _ _ _ h => h) (Or.inl ⟨by rfl, ?_⟩) (by assumption) ?_
        rotate_left
        · (intro wS hSw; (try dsimp only at hSw); go_simp; (try (with_reducible rfl)))
        try simp only [Act.put]
        refine wpZ_take (i := 4) (v := ?_) rfl (by kernel_rfl) (by kernel_rfl) (by kernel_rfl) (by kernel_rfl) (fun _ _ _ h => h) (Or.inl ⟨by rfl, ?_⟩) (by assumption) ?_
        rotate_left
        · (intro wS hSw; (try dsimp only at hSw); go_simp; (try (with_reducible rfl)))
        try simp only [Act.put]
        refine wpZ_take (i := 5) (v := ?_) rfl (by kernel_rfl) (by kernel_rfl) (by kernel_rfl) (by kernel_rfl) (fun _ _ _ h => h) (Or.inl ⟨by rfl, ?_⟩) (by assumption) ?_
        rotate_left
        · (intro wS hSw; (try dsimp only at hSw); go_simp; (try (with_reducible rfl)))
        try simp only [Act.put]
        refine wpZ_take (i := 6) (v := ?_) rfl (by kernel_rfl) (by kernel_rfl) (by kernel_rfl) (by kernel_rfl) (fun _ _ _ h => h) (Or.inl ⟨by rfl, ?_⟩) (by assumption) ?_
        rotate_left
        · (intro wS hSw; (try dsimp only at hSw); go_simp; (try (with_reducible rfl)))
        try simp only [Act.put]
        refine wpZ_take (i := 7) (v := ?_) rfl (by kernel_rfl) (by kernel_rfl) (by kernel_rfl) (by kernel_rfl) (fun _ _ _ h => h) (Or.inl ⟨by rfl, ?_⟩) (by assumption) ?_
        rotate_left
        · (intro wS hSw; (try dsimp only at hSw); go_simp; (try (with_reducible rfl)))
        try simp only [Act.put]
        refine wpZ_take (i := 8) (v := ?_) rfl (by kernel_rfl) (by kernel_rfl) (by kernel_rfl) (by kernel_rfl) (fun _ _ _ h => h) (Or.inl ⟨by rfl, ?_⟩) (by assumption) ?_
        rotate_left
        · (intro wS hSw; (try dsimp only at hSw); go_simp; (try (with_reducible rfl)))
        try simp only [Act.put]
        refine wpZ_take (i := 9) (v := ?_) rfl (by kernel_rfl) (by kernel_rfl) (by kernel_rfl) (by kernel_rfl) (fun _ _ _ h => h) (Or.inl ⟨by rfl, ?_⟩) (by assumption) ?_
        rotate_left
        · (intro wS hSw; (try dsimp only at hSw); go_simp; (try (with_reducible rfl)))
        try simp only [Act.put]
        refine wpZ_take (i := 10) (v := ?_) rfl (by kernel_rfl) (by kernel_rfl) (by kernel_rfl) (by kernel_rfl) (fun _ _ _ h => h) (Or.inl ⟨by rfl, ?_⟩) (by assumption) ?_
        rotate_left
        · (intro wS hSw; (try dsimp only at hSw); go_simp; (try (with_reducible rfl)))
        try simp only [Act.put]
        refine wpZ_take (i := 11) (v := ?_) rfl (by kernel_rfl) (by kernel_rfl) (by kernel_rfl) (by kernel_rfl) (fun _ _ _ h => h) (Or.inl ⟨by rfl, ?_⟩) (by assumption) ?_
        rotate_left
        · (intro wS hSw; (try dsimp only at hSw); go_simp; (try (with_reducible rfl)))
        try simp only [Act.put]
        refine wpZ_take (i := 12) (v := ?_) rfl (by kernel_rfl) (by kernel_rfl) (by kernel_rfl) (by kernel_rfl) (fun _ _ _ h => h) (Or.inl ⟨by rfl, ?_⟩) (by assumption) ?_
        rotate_left
        · (intro wS hSw; (try dsimp only at hSw); go_simp; (try (with_reducible rfl)))
        try simp only [Act.put]
        refine wpZ_one (i := 13) (by kernel_rfl) rfl (fun K hK => ?_)
        go_simp
        refine hK.out _ _ (.inr hS1) ?_
        clear hK K
        try simp only [Act.put, List.setIfInBounds_toArray, List.set_cons_zero, List.set_cons_succ]
        refine wpZ_one (i := 14) (by kernel_rfl) rfl (fun K hK => ?_)
        go_simp
        refine HKI.out.mono ?_
        rintro e w2 ⟨vk', rfl, hr2, hg2, hn2⟩
        obtain ⟨Ak, lk, ck, rfl⟩ := rw_slice hr2
        obtain ⟨c5, c6, c7, c8⟩ := HA.out.hold (grown_of HB0.out hg2) HA.out.nek.1
        have c9 := c8 0
        have hS2 := And.intro c5 (HKK.out _ _ _ (HA.out.apart HX.out hax (fun g e _ => HA.out.tk g e) (grown_of HB0.out hg2)))
        unfold kv at hS2
        refine hK.out _ _ (.inr hS2) ?_
        clear hK K
        try simp only [Act.put, List.setIfInBounds_toArray, List.set_cons_zero, List.set_cons_succ]
        refine wpZ_one (i := 15) (by kernel_rfl) rfl (fun K hK => ?_)
        go_simp
        refine hK.out _ _ (.inr hS2) ?_
        clear hK K
        try simp only [Act.put, List.setIfInBounds_toArray, List.set_cons_zero, List.set_cons_succ]
        refine wpZ_one (i := 16) (by kernel_rfl) rfl (fun K hK => ?_)
        go_simp
        refine hK.out _ _ (.inr hS2) ?_
        clear hK K
        try simp only [Act.put, List.setIfInBounds_toArray, List.set_cons_zero, List.set_cons_succ]
        refine wpZ_one (i := 17) (by kernel_rfl) rfl (fun K hK => ?_)
        go_simp
        refine hK.out _ _ (.inl rfl) ?_
        clear hK K
        try simp only [Act.put, List.setIfInBounds_toArray, List.set_cons_zero, List.set_cons_succ]
        refine wpZ_done (by kernel_rfl) ?_ _
        all_goals
          go_wp2_with fail
          go_meet
          case rel =>
            have hko : KOk w2 oc2 kq := ok_grown HA.out (HX.out.ok kq (List.mem_of_getElem? HKQ.out)) (grown_of HB0.out hg2)
            obtain ⟨hA5, hU5⟩ := HA.out.sk (mid_plain HS.out.up.fb HB0.out hg2 hn2) hr2 (fun k hk => by
              rcases List.mem_append.1 hk with h | h
              · exact .inl (List.mem_of_mem_take h)
              · rcases List.mem_cons.1 h with rfl | h
                · exact .inr hko
                · exact .inl (List.mem_of_mem_drop h))
            exact ⟨_, Lib.hid (HS.out.stepA HF.out HAY.out hA5 hU5)⟩
      case rest =>
        clear HS HX HA ca0 cx0 hc1 hc2 q1 q2 q3 p1 p2 p3 hi0
        obtain ⟨oc3, HS⟩ := hcut
        obtain ⟨ak, av, ac, hA⟩ := HS.out.na
        obtain ⟨xk, xv, xc, hX⟩ := HS.out.nx
        obtain ⟨A1, c1, A2, c2, A3, c3, rfl, rfl, rfl, q1, q2, q3⟩ := hA.row
        obtain ⟨B1, d1, B2, d2, B3, d3, rfl, rfl, rfl, p1, p2, p3⟩ := hX.row
        obtain ⟨gv, rfl, hc1, hc2⟩ := hX.vcell (i := q) (by show q < FX.vs.length; have := HL2.out; omega)
        have hvq2 : (⟨FX.ks, FX.vs, FX.cs.take (q + 1)⟩ : Nf Ky).vs[q]'(by show q < FX.vs.length; have := HL2.out; omega) = vq := by
          have := HVQ.out
          rw [List.getElem?_eq_getElem (by have := HL2.out; omega), Option.some.injEq] at this
          exact this
        rw [hvq2] at hc1
        obtain ⟨-, ca1, -⟩ := hA.cells
        obtain ⟨-, cx1, -⟩ := hX.cells
        have hi0 : (q : Int) < ((⟨FX.ks, FX.vs, FX.cs.take (q + 1)⟩ : Nf Ky).vs.length : Int) := by show (q : Int) < (FX.vs.length : Int); have := HL2.out; omega
        have HA := Lib.hid hA
        have HX := Lib.hid hX
        have HVE := Lib.hid hvq2
        clear hA hX hvq2
        go_upto_region 7 with (fail)
        go_cut [] (fun wc3 => ∃ oc3, Hid (Sp w o a x y ⟨FA.ks.take i ++ kq :: FA.ks.drop i, FA.vs.take i ++ vq :: FA.vs.drop i, FA.cs⟩ ⟨FX.ks, FX.vs, FX.cs.take (q + 1)⟩ ⟨FX.ks.drop (q + 1), FX.vs.drop (q + 1), FX.cs.drop (q + 1)⟩ wc3 oc3))
        case first =>
          have HB0 := Lib.hid (show Below wc.heap.size wc wc.drew from (Below.refl _ _).drew)
          have HVI := Lib.hid (val_ins HA.out (by show FA.vs.length ≤ _; have := HKV.out; omega) (i := i) (by show i ≤ FA.vs.length; have := HKV.out; omega) wc.drew vq HB0.out)
          have HB1 := Lib.hid (HB0.out.alloc HB0.out.size (.cells #[.int .u64 vq] 38))
          have HKK := Lib.hid (fun W B C (h : NdAt W oc3 x B (.slice (some ⟨gv, 0, none⟩) FX.vs.length d2) C ⟨FX.ks, FX.vs, FX.cs.take (q + 1)⟩) => h.v2 (i := q) (by show q < FX.vs.length; have := HL2.out; omega) HVE.out)
          have hS0 := And.intro (HA.out.hold (below_grown HB0.out none) (by simp)).2.1 (HKK.out _ _ _ (HA.out.apart HX.out hax (fun g e _ => HA.out.tv g e) (below_grown HB0.out _)))
          have hS1 := And.intro (HA.out.hold (below_grown HB1.out none) (by simp)).2.1 (HKK.out _ _ _ (HA.out.apart HX.out hax (fun g e _ => HA.out.tv g e) (below_grown HB1.out _)))
          refine wp_region_Z (fun W' => W'.cell? ⟨a, 1, none⟩ = some (.slice A2 FA.vs.length c2) ∧ W'.cell? ⟨x, 1, none⟩ = some (.slice (some ⟨gv, 0, none⟩) FX.vs.length d2) ∧ W'.cell? ⟨gv, q, none⟩ = some (.int .u64 vq)) 17 (by kernel_rfl) ?_
          refine wpZ_take (i := 0) (v := ?_) rfl (by kernel_rfl) (by kernel_rfl) (by kernel_rfl) (by kernel_rfl) (fun _ _ _ h => h) (Or.inl ⟨by rfl, ?_⟩) (by assumption) ?_
          rotate_left
          · (intro wS hSw; (try dsimp only at hSw); go_simp; (try (with_reducible rfl)))
          try simp only [Act.put, List.setIfInBounds_toArray]
          refine wpZ_take (i := 1) (v := ?_) rfl (by kernel_rfl) (by kernel_rfl) (by kernel_rfl) (by kernel_rfl) (fun _ _ _ h => h) (Or.inl ⟨by rfl, ?_⟩) (by assumption) ?_
          rotate_left
          · (intro wS hSw; (try dsimp only at hSw); go_simp; (try (with_reducible rfl)))
          try simp only [Act.put]
          refine wpZ_take (i := 2) (v := ?_) rfl (by kernel_rfl) (by kernel_rfl) (by kernel_rfl) (by kernel_rfl) (fun _ _ _ h => h) (Or.inl ⟨by rfl, ?_⟩) (by assumption) ?_
          rotate_left
          · (intro wS hSw; (try dsimp only at hSw); go_simp; (try (with_reducible rfl)))
          try simp only [Act.put]
          refine wpZ_take (i := 3) (v := ?_) rfl (by kernel_rfl) (by kernel_rfl) (by kernel_rfl) (by kernel_rfl) (fun _ _ _ h => h) (Or.inl ⟨by rfl, ?_⟩) (by assumption) ?_
          rotate_left
          · (intro wS hSw; (try dsimp only at hSw); go_simp; (try (with_reducible rfl)))
          try simp only [Act.put]
          refine wpZ_take (i := 4) (v := ?_) rfl (by kernel_rfl) (by kernel_rfl) (by kernel_rfl) (by kernel_rfl) (fun _ _ _ h => h) (Or.inl ⟨by rfl, ?_⟩) (by assumption) ?_
          rotate_left
          · (intro wS hSw; (try dsimp only at hSw); go_simp; (try (with_reducible rfl)))
          try simp only [Act.put]
          refine wpZ_take (i := 5) (v := ?_) rfl (by kernel_rfl) (by kernel_rfl) (by kernel_rfl) (by kernel_rfl) (fun _ _ _ h => h) (Or.inl ⟨by rfl, ?_⟩) (by assumption) ?_
          rotate_left
          · (intro wS hSw; (try dsimp only at hSw); go_simp; (try (with_reducible rfl)))
          try simp only [Act.put]
          refine wpZ_take (i := 6) (v := ?_) rfl (by kernel_rfl) (by kernel_rfl) (by kernel_rfl) (by kernel_rfl) (fun _ _ _ h => h) (Or.inl ⟨by rfl, ?_⟩) (by assumption) ?_
          rotate_left
          · (intro wS hSw; (try dsimp only at hSw); go_simp; (try (with_reducible rfl)))
          try simp only [Act.put]
          refine wpZ_take (i := 7) (v := ?_) rfl (by kernel_rfl) (by kernel_rfl) (by kernel_rfl) (by kernel_rfl) (fun _ _ _ h => h) (Or.inl ⟨by rfl, ?_⟩) (by assumption) ?_
          rotate_left
          · (intro wS hSw; (try dsimp only at hSw); go_simp; (try (with_reducible rfl)))
          try simp only [Act.put]
          refine wpZ_take (i := 8) (v := ?_) rfl (by kernel_rfl) (by kernel_rfl) (by kernel_rfl) (by kernel_rfl) (fun _ _ _ h => h) (Or.inl ⟨by rfl, ?_⟩) (by assumption) ?_
          rotate_left
          · (intro wS hSw; (try dsimp only at hSw); go_simp; (try (with_reducible rfl)))
          try simp only [Act.put]
          refine wpZ_take (i := 9) (v := ?_) rfl (by kernel_rfl) (by kernel_rfl) (by kernel_rfl) (by kernel_rfl) (fun _ _ _ h => h) (Or.inl ⟨by rfl, ?_⟩) (by assumption) ?_
          rotate_left
          · (intro wS hSw; (try dsimp only at hSw); go_simp; (try (with_reducible rfl)))
          try simp only [Act.put]
          refine wpZ_take (i := 10) (v := ?_) rfl (by kernel_rfl) (by kernel_rfl) (by kernel_rfl) (by kernel_rfl) (fun _ _ _ h => h) (Or.inl ⟨by rfl, ?_⟩) (by assumption) ?_
          rotate_left
          · (intro wS hSw; (try dsimp only at hSw); go_simp; (try (with_reducible rfl)))
          try simp only [Act.put]
          refine wpZ_take (i := 11) (v := ?_) rfl (by kernel_rfl) (by kernel_rfl) (by kernel_rfl) (by kernel_rfl) (fun _ _ _ h => h) (Or.inl ⟨by rfl, ?_⟩) (by assumption) ?_
          rotate_left
          · (intro wS hSw; (try dsimp only at hSw); go_simp; (try (with_reducible rfl)))
          try simp only [Act.put]
          refine wpZ_take (i := 12) (v := ?_) rfl (by kernel_rfl) (by kernel_rfl) (by kernel_rfl) (by kernel_rfl) (fun _ _ _ h => h) (Or.inl ⟨by rfl, ?_⟩) (by assumption) ?_
          rotate_left
          · (intro wS hSw; (try dsimp only at hSw); go_simp; (try (with_reducible rfl)))
          try simp only [Act.put]
          refine wpZ_one (i := 13) (by kernel_rfl) rfl (fun K hK => ?_)
          go_simp
          refine hK.out _ _ (.inr hS1) ?_
          clear hK K
          try simp only [Act.put, List.setIfInBounds_toArray, List.set_cons_zero, List.set_cons_succ]
          refine wpZ_one (i := 14) (by kernel_rfl) rfl (fun K hK => ?_)
          go_simp
          refine HVI.out.mono ?_
          rintro e w2 ⟨vk', rfl, hr2, hg2, hn2⟩
          obtain ⟨Ak, lk, ck, rfl⟩ := rw_slice hr2
          obtain ⟨c5, c6, c7, c8⟩ := HA.out.hold (grown_of HB0.out hg2) HA.out.nek.2.1
          have c9 := c8 1
          have hS2 := And.intro c6 (HKK.out _ _ _ (HA.out.apart HX.out hax (fun g e _ => HA.out.tv g e) (grown_of HB0.out hg2)))
          refine hK.out _ _ (.inr hS2) ?_
          clear hK K
          try simp only [Act.put, List.setIfInBounds_toArray, List.set_cons_zero, List.set_cons_succ]
          refine wpZ_one (i := 15) (by kernel_rfl) rfl (fun K hK => ?_)
          go_simp
          refine hK.out _ _ (.inr hS2) ?_
          clear hK K
          try simp only [Act.put, List.setIfInBounds_toArray, List.set_cons_zero, List.set_cons_succ]
          refine wpZ_one (i := 16) (by kernel_rfl) rfl (fun K hK => ?_)
          go_simp
          refine hK.out _ _ (.inr hS2) ?_
          clear hK K
          try simp only [Act.put, List.setIfInBounds_toArray, List.set_cons_zero, List.set_cons_succ]
          refine wpZ_one (i := 17) (by kernel_rfl) rfl (fun K hK => ?_)
          go_simp
          refine hK.out _ _ (.inl rfl) ?_
          clear hK K
          try simp only [Act.put, List.setIfInBounds_toArray, List.set_cons_zero, List.set_cons_succ]
          refine wpZ_done (by kernel_rfl) ?_ _
          all_goals
            go_wp2_with fail
            go_meet
            case rel =>
              obtain ⟨hA5, hU5⟩ := HA.out.sv (mid_plain HS.out.up.fb HB0.out hg2 hn2) hr2
              exact ⟨_, Lib.hid (HS.out.stepA HF.out HAY.out hA5 hU5)⟩
        case rest =>
          clear HS HX HA ca1 cx1 hc1 hc2 q1 q2 q3 p1 p2 p3 hi0 HVE
          obtain ⟨oc4, HS⟩ := hcut
          obtain ⟨ak, av, ac, hA⟩ := HS.out.na
          obtain ⟨A1, c1, A2, c2, A3, c3, rfl, rfl, rfl, q1, q2, q3⟩ := hA.row
          obtain ⟨-, -, ca2⟩ := hA.cells
          have HA := Lib.hid hA
          have HCI := Lib.hid (kid_ins hA (by show FA.cs.length ≤ _; omega) (i := i + 1) (by show i + 1 ≤ FA.cs.length; omega) wc y (Below.refl _ _))
          have ei : (((i + 1 : Nat)) : Int) = (i : Int) + 1 := by omega
          have f3 := blk_frozen hA.blk 2
          rw [ei] at HCI
          unfold nv at HCI
          clear hA ei
          go_upto_region 9 with (go_at_call 89; refine HCI.out.mono ?_; rintro e w2 ⟨vk', rfl, hr2, hg2, hn2⟩; obtain ⟨Ak, lk, ck, rfl⟩ := rw_slice hr2; obtain ⟨c5, c6, c7, c8⟩ := HA.out.hold hg2 HA.out.nek.2.2; have c9 := c8 2)
          obtain ⟨hA5, hU5⟩ := HA.out.sc (mid_plain HS.out.up.fb (Below.refl _ _) hg2 hn2) hr2
          have HS5 := Lib.hid (HS.out.stepA HF.out HAY.out hA5 hU5)
          clear hA5 hU5 hr2 hg2 hn2 c5 c6 c7 c8 c9 HCI HA HS ca2 f3 q1 q2 q3
          obtain ⟨w5, hw5⟩ : ∃ w5, w5 = w2.setCell ⟨a, 2, none⟩ (.slice Ak lk ck) := ⟨_, rfl⟩
          rw [← hw5] at HS5 ⊢
          clear hw5
          obtain ⟨xk, xv, xc, hX⟩ := HS5.out.nx
          obtain ⟨B1, d1, B2, d2, B3, d3, rfl, rfl, rfl, p1, p2, p3⟩ := hX.row
          obtain ⟨gk, rfl, -⟩ := hX.kcell (i := q) (by show q < FX.ks.length; have := HL1.out; omega)
          obtain ⟨gv, rfl, -⟩ := hX.vcell (i := q) (by show q < FX.vs.length; have := HL2.out; omega)
          obtain ⟨cx0, cx1, -⟩ := hX.cells
          have f4 := blk_frozen hX.blk 0
          have f5 := blk_frozen hX.blk 1
          have hqk : (q : Int) ≤ (d1 : Int) := by have := HL1.out; have : FX.ks.length ≤ d1 := p1; omega
          have hqv : (q : Int) ≤ (d2 : Int) := by have := HL2.out; have : FX.vs.length ≤ d2 := p2; omega
          have HX := Lib.hid hX
          clear hX
          go_region
          all_goals
            have hs1 := ksR_short HX.out.rk rfl q q (by show q ≤ FX.ks.length; have := HL1.out; omega) (Nat.le_refl _) (by omega)
            obtain ⟨hX6, hU6⟩ := HX.out.sk (v' := .slice (some ⟨gk, 0, none⟩) q q) (mid_plain HS5.out.up.fb (Below.refl _ _) (below_grown (Below.refl _ _) _) (.inl rfl)) hs1 (fun k hk => .inl (List.mem_of_mem_take hk))
            have hs2 := vsR_short hX6.rv rfl q q (by show q ≤ FX.vs.length; have := HL2.out; omega) (Nat.le_refl _) (by omega)
            obtain ⟨hX7, hU7⟩ := hX6.sv (v' := .slice (some ⟨gv, 0, none⟩) q q) (mid_plain hU6.fb (Below.refl _ _) (below_grown (Below.refl _ _) _) (.inl rfl)) hs2
            go_end0
            exact ⟨rfl, y, _, ((HS5.out.stepX HF.out ⟨hy', HAY.out.2⟩ hX6 hU6).stepX HF.out ⟨hy', HAY.out.2⟩ hX7 hU7).drew⟩
end Go.Proofs.Ytfhonfeopkhdeaa.BC
