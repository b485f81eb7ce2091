/-
  Where a key is in a row of keys in order: slices.BinarySearchFunc, find. No premise.
  Nodes as they lie; who owns which block; steps that turn some owners' blocks alone. No premise.
  find, Get. No premise.
  good, Get. No premise.
  put, where the key is a node's own. No premise.
  put, where the key is to come into a leaf. No premise.
-/
import Derived.Test.YtfhonfeopkhdeaaBtKC
import Derived.Test.YtfhonfeopkhdeaaBtTr
import Derived.Deep.QuietTactic
import Derived.BigQuiet
import Derived.Test.YtfhonfeopkhdeaaBtRw
import Derived.Deep.LoopGhost
import Derived.Test.YtfhonfeopkhdeaaRowGC
import Derived.Test.YtfhonfeopkhdeaaRowGU
import Derived.Test.YtfhonfeopkhdeaaRowGM
import Derived.Deep.RegionLaw
import Derived.Deep.AppendLies
namespace Go.Proofs.Ytfhonfeopkhdeaa.BC
open Go.RowKit Go.Proofs.YtfhonfeopkhdeaaW.PrintWords

def ksV (l : List (Ky × Int)) : List Value := l.map fun a => kv a.1
theorem ksV_length (l : List (Ky × Int)) : (ksV l).length = l.length := List.length_map _
theorem ks_cell {w : World} {c g : Nat} {l : List (Ky × Int)} (h : Rw w 22 (.slice (some ⟨g, 0, none⟩) l.length c) (ksV l)) {j : Nat} (hj : j < l.length) : w.cell? ⟨g, j, none⟩ = some (kv (l[j]).1) ∧ w.frozen? ⟨g, j, none⟩ = false := by
  have h1 := h.cell (j := j) (by rw [ksV_length]; exact hj)
  simpa [ksV] using h1
/-- What find answers. -/
def FindP (l : List (Ky × Int)) (k : Ky) (w : World) (e : Ending) (w' : World) : Prop :=
  ∃ (i : Nat) (is : Bool), e = .returned (.tuple #[.int .i64 i, .bool is]) ∧ At kct l k i is ∧ ∃ m, w' = w.drewN m
set_option maxRecDepth 100000 in
set_option maxHeartbeats 1000000 in
theorem search_any (A : Option Addr) (c : Nat) (l : List (Ky × Int)) (k : Ky) (w : World) (hr : Rw w 22 (.slice A l.length c) (ksV l)) (hl : l.length ≤ 1000000) (hs : SortedL kct l) (hk : KRd w k) (hkl : ∀ a ∈ l, KRd w a.1) :
    Calls Try.prog 90 #[.slice A l.length c, kv k, .func (.func 13) #[] #[]] w (FindP l k w) := by
  have HR := Lib.hid hr
  have HS := Lib.hid hs
  have HKR := Lib.hid hk
  have HKL := Lib.hid hkl
  clear hr hs hk hkl
  go_enter Try.func90, Try.ntmps90
  go_wp2_with fail
  go_loopw [9, 10] (fun t9 t10 wr => ∃ i j : Nat, i ≤ j ∧ j ≤ l.length ∧ t9 = .int .i64 i ∧ t10 = .int .i64 j ∧ Hid (∀ q (hq : q < l.length), q < i → kk (l[q]).1 k < 0) ∧ Hid (∀ q (hq : q < l.length), j ≤ q → 0 ≤ kk (l[q]).1 k) ∧ Hid (∃ m, wr = w.drewN m)) (fun t9 t10 _ => (intOf t10).toNat - (intOf t9).toNat)
  case atStart => exact ⟨0, l.length, by omega, by omega, rfl, rfl, Lib.hid (fun q hq h => by omega), Lib.hid (fun q hq h => by omega), Lib.hid ⟨0, rfl⟩⟩
  case round =>
    obtain ⟨i, j, hij, hj, rfl, rfl, H1, H2, HW⟩ := hrel
    obtain ⟨m, rfl⟩ := HW.out
    by_cases h : i < j
    · have hu := mid_u i j (by omega) (by omega)
      obtain ⟨q, hq⟩ : ∃ q : Nat, q = (i + j) / 2 := ⟨_, rfl⟩
      have hq1 : q < l.length := by omega
      have hq2 : ((i : Int) + j) / 2 = (q : Int) := by omega
      have hq3 : i ≤ q := by omega
      have hq4 : q < j := by omega
      have hq0 : (q : Int) < (l.length : Int) := by omega
      clear hq
      obtain ⟨g, rfl⟩ : ∃ g, A = some ⟨g, 0, none⟩ := by
        obtain ⟨g, e, _⟩ := HR.out.cells (by rw [ksV_length]; omega)
        exact ⟨g, e⟩
      obtain ⟨hc1, hc2⟩ := ks_cell HR.out hq1
      have HSL := Lib.hid (fun (x : Nat) (hx : x < l.length) => sorted_lt HS.out (k := k) hx hq1)
      have HSG := Lib.hid (fun (x : Nat) (hx : x < l.length) => sorted_lt HS.out (k := k) hq1 hx)
      have hrg := kk_range (l[q]).1 k
      have HK := Lib.hid (show kk (l[q]).1 k = kc kct (l[q]).1 k from rfl)
      have HKD := Lib.hid (HKL.out l[q] (List.getElem_mem hq1))
      generalize hkey : (l[q]).1 = key at hc1 hrg HK HSL HSG HKD
      clear hkey
      rw [← HK.out] at HSL HSG
      clear HK
      generalize hcc : kk key k = cc at hrg HSL HSG
      have HCC := Lib.hid hcc
      clear hcc
      rcases hrg with rfl | rfl | rfl
      all_goals
        go_wp2_with (go_at_call 13; refine (kcmp_any _ _ _ (HKD.out.drewN _) (HKR.out.drewN _)).mono ?_; rintro e w' ⟨rfl, rfl⟩; rw [HCC.out])
        go_roundw
        case measure => simp [intOf]; omega
      case rel => exact ⟨q + 1, j, by omega, hj, by simp, rfl, Lib.hid (fun x hx hxq => (HSL.out x hx (by omega)).1 (by omega)), H2, Lib.hid ⟨m, rfl⟩⟩
      case rel => exact ⟨i, q, by omega, by omega, rfl, rfl, H1, Lib.hid (fun x hx hxq => (HSG.out x hx (by omega)).2 (by omega)), Lib.hid ⟨m, rfl⟩⟩
      case rel => exact ⟨i, q, by omega, by omega, rfl, rfl, H1, Lib.hid (fun x hx hxq => (HSG.out x hx (by omega)).2 (by omega)), Lib.hid ⟨m, rfl⟩⟩
    · have hij2 : i = j := by omega
      subst hij2
      by_cases he : i < l.length
      · have hi0 : (i : Int) < (l.length : Int) := by omega
        obtain ⟨g, rfl⟩ : ∃ g, A = some ⟨g, 0, none⟩ := by
          obtain ⟨g, e, _⟩ := HR.out.cells (by rw [ksV_length]; omega)
          exact ⟨g, e⟩
        obtain ⟨hc1, hc2⟩ := ks_cell HR.out he
        have HKD := Lib.hid (HKL.out l[i] (List.getElem_mem he))
        go_wp2_with (go_at_call 13; refine (kcmp_any _ _ _ (HKD.out.drewN _) (HKR.out.drewN _)).mono ?_; rintro e w' ⟨rfl, rfl⟩)
        go_ret2
        refine ⟨i, _, rfl, at_of HS.out i (by omega) (fun x hx hxi => H1.out x hx hxi) (fun hx => H2.out i hx (by omega)) _ (fun hx => ?_) (fun e => by omega), m, rfl⟩
        show _ = decide (kk (l[i]).1 k = 0)
        by_cases h0 : kk (l[i]).1 k = 0 <;> simp [h0]
      · go_wp2_with fail
        go_ret2
        exact ⟨i, false, rfl, at_of HS.out i (by omega) (fun x hx hxi => H1.out x hx hxi) (fun hx => absurd hx he) _ (fun hx => absurd hx he) (fun _ => rfl), m, rfl⟩
end Go.Proofs.Ytfhonfeopkhdeaa.BC

namespace Go.Proofs.Ytfhonfeopkhdeaa.BC
open Go.RowKit Go.Proofs.YtfhonfeopkhdeaaW.PrintWords

def ksR (l : List Ky) : List Value := l.map kv
def vsR (l : List Int) : List Value := l.map (.int .u64)
def nv (n : Nat) : Value := .pointer (some ⟨n, 0, none⟩)
def csR (l : List Nat) : List Value := l.map nv
theorem ksR_one (l : List Ky) : One (ksR l) := fun u hu => by
  obtain ⟨k, _, rfl⟩ := List.mem_map.1 hu
  exact kv_one k
theorem vsR_one (l : List Int) : One (vsR l) := fun u hu => by
  obtain ⟨k, _, rfl⟩ := List.mem_map.1 hu
  rfl
theorem csR_one (l : List Nat) : One (csR l) := fun u hu => by
  obtain ⟨k, _, rfl⟩ := List.mem_map.1 hu
  rfl
theorem ksR_its (l : List (Ky × Int)) : ksR (l.map (·.1)) = ksV l := by simp [ksR, ksV]
/-- Whose a value's block is. -/
def tgv (o : Nat → Nat) (v : Value) (t : Nat) : Nat → Nat := fun b => if v.ownBlock = some b then t else o b
/-- A node of the store. -/
structure NdAt (w : World) (o : Nat → Nat) (n : Nat) (vk vv vc : Value) (F : Nf Ky) : Prop where
  blk : w.heap[n]? = some (.cells #[vk, vv, vc] 106 (0, 0))
  tg : o n = n + 2
  rk : Rw w 22 vk (ksR F.ks)
  rv : Rw w 38 vv (vsR F.vs)
  rc : Rw w 100 vc (csR F.cs)
  tk : ∀ g, vk.ownBlock = some g → o g = n + 2
  tv : ∀ g, vv.ownBlock = some g → o g = n + 2
  tc : ∀ g, vc.ownBlock = some g → o g = n + 2
  ok : ∀ k ∈ F.ks, KOk w o k
/-- The store. -/
def Gm (w : World) (o : Nat → Nat) (M : Nat → Option (Nf Ky)) : Prop := ∀ n F, M n = some F → ∃ vk vv vc, NdAt w o n vk vv vc F
/-- Tags: none ahead of the heap's end, none greater than a node's. -/
structure Fb (o : Nat → Nat) (w : World) : Prop where
  end_ : ∀ b, w.heap.size ≤ b → o b = 0
  le : ∀ b, o b < w.heap.size + 2
theorem Fb.mono {o : Nat → Nat} {w w' : World} (h : Fb o w) (hs : w.heap.size ≤ w'.heap.size) : Fb o w' := ⟨fun b hb => h.end_ b (by omega), fun b => by have := h.le b; omega⟩
/-- A step that turns blocks of some tags alone. -/
structure Up (S : Nat → Prop) (o o' : Nat → Nat) (w w' : World) : Prop where
  os : w'.os = w.os
  tape : w'.tape = w.tape
  output : w'.output = w.output
  size : w.heap.size ≤ w'.heap.size
  blk : ∀ b, b < w.heap.size → ¬ S (o b) → w'.heap[b]? = w.heap[b]?
  old : ∀ b, b < w.heap.size → o' b = o b
  fb : Fb o' w'
theorem Up.trans {S T U : Nat → Prop} {o o' o'' : Nat → Nat} {a b c : World} (hf : Fb o a) (h : Up S o o' a b) (k : Up T o' o'' b c) (h1 : ∀ t, S t → U t) (h2 : ∀ t, t < a.heap.size + 2 → T t → U t) : Up U o o'' a c :=
  ⟨k.os.trans h.os, k.tape.trans h.tape, k.output.trans h.output, Nat.le_trans h.size k.size,
    fun j hj hn => (k.blk j (Nat.lt_of_lt_of_le hj h.size) (by rw [h.old j hj]; exact fun e => hn (h2 _ (hf.le j) e))).trans (h.blk j hj (fun e => hn (h1 _ e))),
    fun j hj => (k.old j (Nat.lt_of_lt_of_le hj h.size)).trans (h.old j hj), k.fb⟩
theorem Up.mono {S T : Nat → Prop} {o o' : Nat → Nat} {a b : World} (h : Up S o o' a b) (h1 : ∀ t, S t → T t) : Up T o o' a b :=
  ⟨h.os, h.tape, h.output, h.size, fun j hj hn => h.blk j hj (fun e => hn (h1 _ e)), h.old, h.fb⟩
theorem Up.quiet {S : Nat → Prop} {o : Nat → Nat} {w w' : World} (hf : Fb o w) (h : Below w.heap.size w w') : Up S o o w w' :=
  ⟨h.os, h.tape, h.output, h.size, fun j hj _ => h.block j hj, fun _ _ => rfl, hf.mono h.size⟩
theorem Up.below {S : Nat → Prop} {o o' : Nat → Nat} {w w' : World} (h : Up S o o' w w') {B : Nat} (hB : B ≤ w.heap.size) (ho : ∀ b, b < B → ¬ S (o b)) : Below B w w' :=
  ⟨h.os, h.tape, h.output, h.size, fun b hb => h.blk b (by omega) (ho b hb)⟩
theorem NdAt.lt {w : World} {o : Nat → Nat} {n : Nat} {vk vv vc : Value} {F : Nf Ky} (h : NdAt w o n vk vv vc F) : n < w.heap.size := blk_lt h.blk
theorem NdAt.keep {w w' : World} {o o' : Nat → Nat} {n : Nat} {vk vv vc : Value} {F : Nf Ky} (h : NdAt w o n vk vv vc F)
    (hk : ∀ b, b < w.heap.size → o b = n + 2 ∨ o b = 1 → w'.heap[b]? = w.heap[b]? ∧ o' b = o b) : NdAt w' o' n vk vv vc F where
  blk := (hk n h.lt (.inl h.tg)).1.trans h.blk
  tg := (hk n h.lt (.inl h.tg)).2.trans h.tg
  rk := h.rk.keep fun g hg hl => (hk g hl (.inl (h.tk g hg))).1
  rv := h.rv.keep fun g hg hl => (hk g hl (.inl (h.tv g hg))).1
  rc := h.rc.keep fun g hg hl => (hk g hl (.inl (h.tc g hg))).1
  tk := fun g hg => (hk g (h.rk.lt hg) (.inl (h.tk g hg))).2.trans (h.tk g hg)
  tv := fun g hg => (hk g (h.rv.lt hg) (.inl (h.tv g hg))).2.trans (h.tv g hg)
  tc := fun g hg => (hk g (h.rc.lt hg) (.inl (h.tc g hg))).2.trans (h.tc g hg)
  ok := fun k hkm => (h.ok k hkm).keep fun b hb h1 => ⟨(hk b hb (.inr h1)).1, (hk b hb (.inr h1)).2.trans h1⟩
theorem NdAt.up {w w' : World} {o o' : Nat → Nat} {n : Nat} {vk vv vc : Value} {F : Nf Ky} {S : Nat → Prop} (h : NdAt w o n vk vv vc F) (u : Up S o o' w w') (h1 : ¬ S 1) (hn : ¬ S (n + 2)) : NdAt w' o' n vk vv vc F :=
  h.keep fun b hb ht => ⟨u.blk b hb (by rcases ht with e | e <;> rw [e] <;> assumption), u.old b hb⟩
def setM (M : Nat → Option (Nf Ky)) (n : Nat) (F : Nf Ky) : Nat → Option (Nf Ky) := fun b => if b = n then some F else M b
theorem setM_same (M : Nat → Option (Nf Ky)) (n : Nat) (F : Nf Ky) : setM M n F n = some F := if_pos rfl
theorem setM_other (M : Nat → Option (Nf Ky)) {n b : Nat} (F : Nf Ky) (h : b ≠ n) : setM M n F b = M b := if_neg h
theorem Gm.up {w w' : World} {o o' : Nat → Nat} {M : Nat → Option (Nf Ky)} (h : Gm w o M) (hb : Below w.heap.size w w') (ho : ∀ b, b < w.heap.size → o' b = o b) : Gm w' o' M := fun n F hF => by
  obtain ⟨vk, vv, vc, hn⟩ := h n F hF
  exact ⟨vk, vv, vc, hn.keep fun b hb2 _ => ⟨hb.block b hb2, ho b hb2⟩⟩
theorem Gm.set {w w' : World} {o o' : Nat → Nat} {M : Nat → Option (Nf Ky)} {S : Nat → Prop} (h : Gm w o M) (u : Up S o o' w w') {n : Nat} (hS : ∀ t, S t → t = n + 2) {vk vv vc : Value} {F : Nf Ky} (hn : NdAt w' o' n vk vv vc F) : Gm w' o' (setM M n F) := fun b G hG => by
  unfold setM at hG
  split at hG
  · next e =>
    cases hG
    subst e
    exact ⟨vk, vv, vc, hn⟩
  · next e =>
    obtain ⟨a, b', c, hb⟩ := h b G hG
    exact ⟨a, b', c, hb.up u (fun e1 => by have := hS _ e1; omega) (fun e1 => e (by have := hS _ e1; omega))⟩
theorem Gm.lt {w : World} {o : Nat → Nat} {M : Nat → Option (Nf Ky)} (h : Gm w o M) {n : Nat} {F : Nf Ky} (hn : M n = some F) : n < w.heap.size := by
  obtain ⟨_, _, _, h⟩ := h n F hn
  exact h.lt
/-- The tags while a row is made: old ones stay, none ahead of the end. -/
structure Mid (o o1 : Nat → Nat) (w W : World) (v v' : Value) : Prop where
  gr : w.grownBy W v.ownBlock
  old : ∀ b, b < w.heap.size → o1 b = o b
  fb : Fb o1 W
  nw : v'.ownBlock = v.ownBlock ∨ ∃ g, v'.ownBlock = some g ∧ w.heap.size ≤ g ∧ o1 g = 0
theorem NdAt.sk {w W : World} {o o1 : Nat → Nat} {n : Nat} {vk vv vc v' : Value} {F : Nf Ky} {xs : List Ky} (h : NdAt w o n vk vv vc F) (m : Mid o o1 w W vk v') (hr : Rw W 22 v' (ksR xs)) (hk : ∀ k ∈ xs, k ∈ F.ks ∨ KOk W o1 k) :
    NdAt (W.setCell ⟨n, 0, none⟩ v') (tgv o1 v' (n + 2)) n v' vv vc ⟨xs, F.vs, F.cs⟩ ∧ Up (· = n + 2) o (tgv o1 v' (n + 2)) w (W.setCell ⟨n, 0, none⟩ v') := by
  have hne : ∀ g, vk.ownBlock = some g → g ≠ n := fun g hg => by
    obtain ⟨cur, hc⟩ := h.rk.blk hg
    exact blk_ne hc h.blk (by decide)
  have hW : W.heap[n]? = some (.cells #[vk, vv, vc] 106 (0, 0)) := (m.gr.block n h.lt (fun e => hne n e.symm rfl)).trans h.blk
  have hne2 : ∀ g, v'.ownBlock = some g → g ≠ n := fun g hg => by
    obtain ⟨cur, hc⟩ := hr.blk hg
    exact blk_ne hc hW (by decide)
  have hon : ∀ g, v'.ownBlock = some g → g < w.heap.size → o g = n + 2 := fun g hg hl => by
    rcases m.nw with e | ⟨g', e, h2, _⟩
    · exact h.tk g (e ▸ hg)
    · rw [e] at hg
      cases hg
      omega
  have hot : ∀ b, b < w.heap.size → tgv o1 v' (n + 2) b = o b := fun b hb => by
    unfold tgv
    split
    · next e => exact (hon b e hb).symm
    · exact m.old b hb
  have hkp : ∀ b, b < w.heap.size → b ≠ n → vk.ownBlock ≠ some b → (W.setCell ⟨n, 0, none⟩ v').heap[b]? = w.heap[b]? := fun b hb h1 h2 =>
    (Below.heap_setCell W ⟨n, 0, none⟩ v' b h1).trans (m.gr.block b hb (fun e => h2 e.symm))
  have hrow : ∀ {e : TypeId} {v : Value} {ys : List Value}, Rw w e v ys → e ≠ 22 → e ≠ 106 → Rw (W.setCell ⟨n, 0, none⟩ v') e v ys := fun {e v ys} hv h1 h2 => by
    refine hv.keep fun g hg hl => hkp g hl ?_ fun e2 => ?_
    · obtain ⟨cur, hc⟩ := hv.blk hg
      exact blk_ne hc h.blk h2
    · obtain ⟨cur, hc⟩ := hv.blk hg
      obtain ⟨cur2, hc2⟩ := h.rk.blk e2
      exact blk_ne hc hc2 h1 rfl
  refine ⟨⟨blk_set hW 0 v', (hot n h.lt).trans h.tg, ?_, hrow h.rv (by decide) (by decide), hrow h.rc (by decide) (by decide), fun g hg => if_pos hg, fun g hg => (hot g (h.rv.lt hg)).trans (h.tv g hg), fun g hg => (hot g (h.rc.lt hg)).trans (h.tc g hg), fun k hkm => ?_⟩, ?_⟩
  · exact hr.keep fun g hg _ => Below.heap_setCell W ⟨n, 0, none⟩ v' g (hne2 g hg)
  · rcases hk k hkm with h1 | h1
    · refine (h.ok k h1).keep fun b hb ht => ⟨hkp b hb (fun e => ?_) (fun e => ?_), (hot b hb).trans ht⟩
      · rw [e, h.tg] at ht; omega
      · rw [h.tk b e] at ht; omega
    · refine h1.keep fun b hb ht => ⟨Below.heap_setCell W ⟨n, 0, none⟩ v' b (fun e => ?_), ?_⟩
      · have : o1 n = n + 2 := (m.old n h.lt).trans h.tg
        rw [show b = n from e, this] at ht; omega
      · unfold tgv
        split
        · next e =>
          rcases m.nw with e2 | ⟨g', e2, _, h3⟩
          · rw [e2] at e
            have := h.tk b e
            rw [m.old b (h.rk.lt e), this] at ht; omega
          · rw [e2] at e
            cases e
            omega
        · exact ht
  · refine ⟨m.gr.os, m.gr.tape, m.gr.output, by rw [World.setCell]; simpa using m.gr.size, fun b hb hS => hkp b hb (fun e => hS (by rw [e, h.tg])) (fun e => hS (h.tk b e)), hot, ⟨fun b hb => ?_, fun b => ?_⟩⟩
    · have hb2 : W.heap.size ≤ b := by simpa [World.setCell] using hb
      unfold tgv
      split
      · next e => have := hr.lt e; omega
      · exact m.fb.end_ b hb2
    · have h1 : (W.setCell ⟨n, 0, none⟩ v').heap.size = W.heap.size := by simp [World.setCell]
      rw [h1]
      have h2 := m.gr.size
      have h3 := h.lt
      unfold tgv
      split
      · omega
      · exact m.fb.le b
theorem NdAt.sv {w W : World} {o o1 : Nat → Nat} {n : Nat} {vk vv vc v' : Value} {F : Nf Ky} {xs : List Int} (h : NdAt w o n vk vv vc F) (m : Mid o o1 w W vv v') (hr : Rw W 38 v' (vsR xs)) :
    NdAt (W.setCell ⟨n, 1, none⟩ v') (tgv o1 v' (n + 2)) n vk v' vc ⟨F.ks, xs, F.cs⟩ ∧ Up (· = n + 2) o (tgv o1 v' (n + 2)) w (W.setCell ⟨n, 1, none⟩ v') := by
  have hne : ∀ g, vv.ownBlock = some g → g ≠ n := fun g hg => by
    obtain ⟨cur, hc⟩ := h.rv.blk hg
    exact blk_ne hc h.blk (by decide)
  have hW : W.heap[n]? = some (.cells #[vk, vv, vc] 106 (0, 0)) := (m.gr.block n h.lt (fun e => hne n e.symm rfl)).trans h.blk
  have hne2 : ∀ g, v'.ownBlock = some g → g ≠ n := fun g hg => by
    obtain ⟨cur, hc⟩ := hr.blk hg
    exact blk_ne hc hW (by decide)
  have hon : ∀ g, v'.ownBlock = some g → g < w.heap.size → o g = n + 2 := fun g hg hl => by
    rcases m.nw with e | ⟨g', e, h2, _⟩
    · exact h.tv g (e ▸ hg)
    · rw [e] at hg
      cases hg
      omega
  have hot : ∀ b, b < w.heap.size → tgv o1 v' (n + 2) b = o b := fun b hb => by
    unfold tgv
    split
    · next e => exact (hon b e hb).symm
    · exact m.old b hb
  have hkp : ∀ b, b < w.heap.size → b ≠ n → vv.ownBlock ≠ some b → (W.setCell ⟨n, 1, none⟩ v').heap[b]? = w.heap[b]? := fun b hb h1 h2 =>
    (Below.heap_setCell W ⟨n, 1, none⟩ v' b h1).trans (m.gr.block b hb (fun e => h2 e.symm))
  have hrow : ∀ {e : TypeId} {v : Value} {ys : List Value}, Rw w e v ys → e ≠ 38 → e ≠ 106 → Rw (W.setCell ⟨n, 1, none⟩ v') e v ys := fun {e v ys} hv h1 h2 => by
    refine hv.keep fun g hg hl => hkp g hl ?_ fun e2 => ?_
    · obtain ⟨cur, hc⟩ := hv.blk hg
      exact blk_ne hc h.blk h2
    · obtain ⟨cur, hc⟩ := hv.blk hg
      obtain ⟨cur2, hc2⟩ := h.rv.blk e2
      exact blk_ne hc hc2 h1 rfl
  refine ⟨⟨blk_set hW 1 v', (hot n h.lt).trans h.tg, hrow h.rk (by decide) (by decide), ?_, hrow h.rc (by decide) (by decide), fun g hg => (hot g (h.rk.lt hg)).trans (h.tk g hg), fun g hg => if_pos hg, fun g hg => (hot g (h.rc.lt hg)).trans (h.tc g hg), fun k hkm => ?_⟩, ?_⟩
  · exact hr.keep fun g hg _ => Below.heap_setCell W ⟨n, 1, none⟩ v' g (hne2 g hg)
  · refine (h.ok k hkm).keep fun b hb ht => ⟨hkp b hb (fun e => ?_) (fun e => ?_), (hot b hb).trans ht⟩
    · rw [e, h.tg] at ht; omega
    · rw [h.tv b e] at ht; omega
  · refine ⟨m.gr.os, m.gr.tape, m.gr.output, by rw [World.setCell]; simpa using m.gr.size, fun b hb hS => hkp b hb (fun e => hS (by rw [e, h.tg])) (fun e => hS (h.tv b e)), hot, ⟨fun b hb => ?_, fun b => ?_⟩⟩
    · have hb2 : W.heap.size ≤ b := by simpa [World.setCell] using hb
      unfold tgv
      split
      · next e => have := hr.lt e; omega
      · exact m.fb.end_ b hb2
    · have h1 : (W.setCell ⟨n, 1, none⟩ v').heap.size = W.heap.size := by simp [World.setCell]
      rw [h1]
      have h2 := m.gr.size
      have h3 := h.lt
      unfold tgv
      split
      · omega
      · exact m.fb.le b
theorem NdAt.sc {w W : World} {o o1 : Nat → Nat} {n : Nat} {vk vv vc v' : Value} {F : Nf Ky} {xs : List Nat} (h : NdAt w o n vk vv vc F) (m : Mid o o1 w W vc v') (hr : Rw W 100 v' (csR xs)) :
    NdAt (W.setCell ⟨n, 2, none⟩ v') (tgv o1 v' (n + 2)) n vk vv v' ⟨F.ks, F.vs, xs⟩ ∧ Up (· = n + 2) o (tgv o1 v' (n + 2)) w (W.setCell ⟨n, 2, none⟩ v') := by
  have hne : ∀ g, vc.ownBlock = some g → g ≠ n := fun g hg => by
    obtain ⟨cur, hc⟩ := h.rc.blk hg
    exact blk_ne hc h.blk (by decide)
  have hW : W.heap[n]? = some (.cells #[vk, vv, vc] 106 (0, 0)) := (m.gr.block n h.lt (fun e => hne n e.symm rfl)).trans h.blk
  have hne2 : ∀ g, v'.ownBlock = some g → g ≠ n := fun g hg => by
    obtain ⟨cur, hc⟩ := hr.blk hg
    exact blk_ne hc hW (by decide)
  have hon : ∀ g, v'.ownBlock = some g → g < w.heap.size → o g = n + 2 := fun g hg hl => by
    rcases m.nw with e | ⟨g', e, h2, _⟩
    · exact h.tc g (e ▸ hg)
    · rw [e] at hg
      cases hg
      omega
  have hot : ∀ b, b < w.heap.size → tgv o1 v' (n + 2) b = o b := fun b hb => by
    unfold tgv
    split
    · next e => exact (hon b e hb).symm
    · exact m.old b hb
  have hkp : ∀ b, b < w.heap.size → b ≠ n → vc.ownBlock ≠ some b → (W.setCell ⟨n, 2, none⟩ v').heap[b]? = w.heap[b]? := fun b hb h1 h2 =>
    (Below.heap_setCell W ⟨n, 2, none⟩ v' b h1).trans (m.gr.block b hb (fun e => h2 e.symm))
  have hrow : ∀ {e : TypeId} {v : Value} {ys : List Value}, Rw w e v ys → e ≠ 100 → e ≠ 106 → Rw (W.setCell ⟨n, 2, none⟩ v') e v ys := fun {e v ys} hv h1 h2 => by
    refine hv.keep fun g hg hl => hkp g hl ?_ fun e2 => ?_
    · obtain ⟨cur, hc⟩ := hv.blk hg
      exact blk_ne hc h.blk h2
    · obtain ⟨cur, hc⟩ := hv.blk hg
      obtain ⟨cur2, hc2⟩ := h.rc.blk e2
      exact blk_ne hc hc2 h1 rfl
  refine ⟨⟨blk_set hW 2 v', (hot n h.lt).trans h.tg, hrow h.rk (by decide) (by decide), hrow h.rv (by decide) (by decide), ?_, fun g hg => (hot g (h.rk.lt hg)).trans (h.tk g hg), fun g hg => (hot g (h.rv.lt hg)).trans (h.tv g hg), fun g hg => if_pos hg, fun k hkm => ?_⟩, ?_⟩
  · exact hr.keep fun g hg _ => Below.heap_setCell W ⟨n, 2, none⟩ v' g (hne2 g hg)
  · refine (h.ok k hkm).keep fun b hb ht => ⟨hkp b hb (fun e => ?_) (fun e => ?_), (hot b hb).trans ht⟩
    · rw [e, h.tg] at ht; omega
    · rw [h.tc b e] at ht; omega
  · refine ⟨m.gr.os, m.gr.tape, m.gr.output, by rw [World.setCell]; simpa using m.gr.size, fun b hb hS => hkp b hb (fun e => hS (by rw [e, h.tg])) (fun e => hS (h.tc b e)), hot, ⟨fun b hb => ?_, fun b => ?_⟩⟩
    · have hb2 : W.heap.size ≤ b := by simpa [World.setCell] using hb
      unfold tgv
      split
      · next e => have := hr.lt e; omega
      · exact m.fb.end_ b hb2
    · have h1 : (W.setCell ⟨n, 2, none⟩ v').heap.size = W.heap.size := by simp [World.setCell]
      rw [h1]
      have h2 := m.gr.size
      have h3 := h.lt
      unfold tgv
      split
      · omega
      · exact m.fb.le b
/-- A number of a node, written in its place. -/
theorem NdAt.vset {w : World} {o : Nat → Nat} {n g c : Nat} {A : Nat} {vk vc : Value} {F : Nf Ky} (hf : Fb o w) (h : NdAt w o n vk (.slice (some ⟨g, 0, none⟩) A c) vc F) (i : Nat) (x : Int) :
    NdAt (w.setCell ⟨g, i, none⟩ (.int .u64 x)) o n vk (.slice (some ⟨g, 0, none⟩) A c) vc ⟨F.ks, F.vs.set i x, F.cs⟩ ∧ Up (· = n + 2) o o w (w.setCell ⟨g, i, none⟩ (.int .u64 x)) := by
  have hg : o g = n + 2 := h.tv g rfl
  obtain ⟨cur, hc⟩ := h.rv.blk (g := g) rfl
  have hkp : ∀ b, b ≠ g → (w.setCell ⟨g, i, none⟩ (.int .u64 x)).heap[b]? = w.heap[b]? := fun b h1 => Below.heap_setCell w ⟨g, i, none⟩ _ b h1
  have hrow : ∀ {e : TypeId} {v : Value} {ys : List Value}, Rw w e v ys → e ≠ 38 → Rw (w.setCell ⟨g, i, none⟩ (.int .u64 x)) e v ys := fun {e v ys} hv h1 =>
    hv.keep fun g' hg' _ => hkp g' (by
      obtain ⟨cur', hc'⟩ := hv.blk hg'
      exact blk_ne hc' hc h1)
  have hset := h.rv.set i (.int .u64 x)
  have e : (vsR F.vs).set i (.int .u64 x) = vsR (F.vs.set i x) := by unfold vsR; rw [List.map_set]
  rw [e] at hset
  exact ⟨⟨(hkp n (blk_ne h.blk hc (by decide))).trans h.blk, h.tg, hrow h.rk (by decide), hset, hrow h.rc (by decide), h.tk, h.tv, h.tc, fun k hk => (h.ok k hk).keep fun b _ ht => ⟨hkp b (fun e => by rw [e, hg] at ht; omega), ht⟩⟩,
    ⟨rfl, rfl, rfl, by simp [World.setCell], fun b _ hS => hkp b (fun e => hS (by rw [e, hg])), fun _ _ => rfl, hf.mono (by simp [World.setCell])⟩⟩
/-- The tags, a node having been made. -/
def tgn (o : Nat → Nat) (y : Nat) (vk vv : Value) : Nat → Nat := fun b => if b = y ∨ vk.ownBlock = some b ∨ vv.ownBlock = some b then y + 2 else o b
/-- A node that is made now, of rows that were made now. -/
theorem nd_new {w W : World} {o : Nat → Nat} {vk vv : Value} {ks : List Ky} {vs : List Int} (hf : Fb o w) (hb : Below w.heap.size w W) (hk : Rw W 22 vk (ksR ks)) (hv : Rw W 38 vv (vsR vs))
    (nk : ∀ g, vk.ownBlock = some g → w.heap.size ≤ g) (nn : ∀ g, vv.ownBlock = some g → w.heap.size ≤ g) (ok : ∀ k ∈ ks, KOk w o k) :
    NdAt (W.alloc (.cells #[vk, vv, .slice none 0 0] 106)) (tgn o W.heap.size vk vv) W.heap.size vk vv (.slice none 0 0) ⟨ks, vs, []⟩ ∧
    Up (fun _ => False) o (tgn o W.heap.size vk vv) w (W.alloc (.cells #[vk, vv, .slice none 0 0] 106)) := by
  have hB : Below W.heap.size W (W.alloc (.cells #[vk, vv, .slice none 0 0] 106)) := (Below.refl _ _).alloc (Nat.le_refl _) _
  have hB2 : Below w.heap.size w (W.alloc (.cells #[vk, vv, .slice none 0 0] 106)) := hb.alloc hb.size _
  have hsz : (W.alloc (.cells #[vk, vv, .slice none 0 0] 106)).heap.size = W.heap.size + 1 := by simp
  have h0 := hb.size
  have hot : ∀ b, b < w.heap.size → tgn o W.heap.size vk vv b = o b := fun b hl => by
    refine if_neg ?_
    rintro (e | e | e)
    · omega
    · have := nk b e; omega
    · have := nn b e; omega
  refine ⟨⟨by show (W.heap.push _)[W.heap.size]? = _; simp, if_pos (.inl rfl), hk.keep fun g hg hl => hB.block g hl, hv.keep fun g hg hl => hB.block g hl, Rw.nil _ _, fun g hg => if_pos (.inr (.inl hg)), fun g hg => if_pos (.inr (.inr hg)), (fun g hg => by cases hg), fun k hkm => (ok k hkm).keep fun b hl ht => ⟨hB2.block b hl, (hot b hl).trans ht⟩⟩,
    ⟨hB2.os, hB2.tape, hB2.output, hB2.size, fun b hl _ => hB2.block b hl, hot, ⟨fun b hl => ?_, fun b => ?_⟩⟩⟩
  · rw [hsz] at hl
    refine (if_neg ?_).trans (hf.end_ b (by omega))
    rintro (e | e | e)
    · omega
    · have := hk.lt e; omega
    · have := hv.lt e; omega
  · rw [hsz]
    have h1 := hf.le b
    unfold tgn
    split <;> omega
/-- The tree's own block. -/
structure TrAt (w : World) (o : Nat → Nat) (p m sz q : Nat) : Prop where
  blk : w.heap[p]? = some (.cells #[.int .i64 m, .int .i64 sz, .func (.func 13) #[] #[], .func (.func 61) #[] #[], nv q] 102 (0, 0))
  tg : o p = p + 2
theorem TrAt.up {w w' : World} {o o' : Nat → Nat} {p m sz q : Nat} {S : Nat → Prop} (h : TrAt w o p m sz q) (u : Up S o o' w w') (hp : ¬ S (p + 2)) : TrAt w' o' p m sz q :=
  ⟨(u.blk p (blk_lt h.blk) (by rw [h.tg]; exact hp)).trans h.blk, (u.old p (blk_lt h.blk)).trans h.tg⟩
theorem TrAt.ne {w : World} {o : Nat → Nat} {p m sz q n : Nat} {vk vv vc : Value} {F : Nf Ky} (h : TrAt w o p m sz q) (hn : NdAt w o n vk vv vc F) : p ≠ n := blk_ne h.blk hn.blk (by decide)
end Go.Proofs.Ytfhonfeopkhdeaa.BC

namespace Go.Proofs.Ytfhonfeopkhdeaa.BC
open Go.RowKit Go.Proofs.YtfhonfeopkhdeaaW.PrintWords

theorem TrAt.cells {w : World} {o : Nat → Nat} {p m sz q : Nat} (h : TrAt w o p m sz q) : w.cell? ⟨p, 0, none⟩ = some (.int .i64 m) ∧ w.cell? ⟨p, 1, none⟩ = some (.int .i64 sz) ∧ w.cell? ⟨p, 2, none⟩ = some (.func (.func 13) #[] #[]) ∧ w.cell? ⟨p, 3, none⟩ = some (.func (.func 61) #[] #[]) ∧ w.cell? ⟨p, 4, none⟩ = some (nv q) := by
  refine ⟨?_, ?_, ?_, ?_, ?_⟩ <;> rw [blk_cell h.blk] <;> rfl
theorem NdAt.cells {w : World} {o : Nat → Nat} {n : Nat} {vk vv vc : Value} {F : Nf Ky} (h : NdAt w o n vk vv vc F) : w.cell? ⟨n, 0, none⟩ = some vk ∧ w.cell? ⟨n, 1, none⟩ = some vv ∧ w.cell? ⟨n, 2, none⟩ = some vc := by
  refine ⟨?_, ?_, ?_⟩ <;> rw [blk_cell h.blk] <;> rfl
theorem search_at (A : Option Addr) (c : Nat) (l : List (Ky × Int)) (k : Ky) (w : World) (hr : Rw w 22 (.slice A l.length c) (ksV l)) (hl : l.length ≤ 1000000) (hs : SortedL kct l) (hk : KRd w k) (hkl : ∀ a ∈ l, KRd w a.1) {i : Nat} {is : Bool} (ha : At kct l k i is) :
    Calls Try.prog 90 #[.slice A l.length c, kv k, .func (.func 13) #[] #[]] w fun e w' => e = .returned (.tuple #[.int .i64 i, .bool is]) ∧ ∃ m, w' = w.drewN m := by
  refine (search_any A c l k w hr hl hs hk hkl).mono ?_
  rintro e w' ⟨i', is', rfl, ha', hw⟩
  obtain ⟨rfl, rfl⟩ := at_unique ha' ha
  exact ⟨rfl, hw⟩
set_option maxRecDepth 100000 in
set_option maxHeartbeats 1000000 in
theorem find_at (p m sz q n : Nat) (vk vv vc : Value) (its : List (Ky × Int)) (cs : List Nat) (k : Ky) (w : World) (o : Nat → Nat) (ht : TrAt w o p m sz q) (hn : NdAt w o n vk vv vc (nf its cs)) (hl : its.length ≤ 1000000) (hs : SortedL kct its) (hk : KRd w k) {i : Nat} {is : Bool} (ha : At kct its k i is) :
    Calls Try.prog 67 #[nv p, nv n, kv k] w fun e w' => e = .returned (.tuple #[.int .i64 i, .bool is]) ∧ ∃ m, w' = w.drewN m := by
  obtain ⟨_, _, c2, _, _⟩ := ht.cells
  obtain ⟨d0, _, _⟩ := hn.cells
  have hr := hn.rk
  rw [show (nf its cs).ks = its.map (·.1) from rfl, ksR_its] at hr
  have hkl : ∀ a ∈ its, KRd w a.1 := fun a ha => (hn.ok a.1 (List.mem_map_of_mem ha)).rd
  obtain ⟨A, c, rfl, _⟩ := hr.form
  rw [ksV_length] at d0 hr
  have HC := Lib.hid (fun m => search_at A c its k (w.drewN m) (show Rw (w.drewN m) _ _ _ from hr.keep fun _ _ _ => rfl) hl hs (hk.drewN m) (fun a ha => (hkl a ha).drewN m) ha)
  clear hr hn hs hkl ht
  unfold nv
  go_enter Try.func67, Try.ntmps67
  go_wp2_with fail
  go_quiet ((go_at_call 90; exact Calls.quiet_of (HC.out _)))
  go_wp2_with fail
  go_ret2
  exact ⟨rfl, _, rfl⟩
end Go.Proofs.Ytfhonfeopkhdeaa.BC

namespace Go.Proofs.Ytfhonfeopkhdeaa.BC
open Go.RowKit Go.Proofs.YtfhonfeopkhdeaaW.PrintWords

theorem get_mid {α : Type} {l A B : List α} {a : α} {i : Nat} (e : l = A ++ a :: B) (hA : A.length = i) (h : i < l.length) : l[i] = a := by
  subst e
  subst hA
  simp
theorem good_any (p m sz q : Nat) (w : World) (o : Nat → Nat) (ht : TrAt w o p m sz q) : Calls Try.prog 63 #[nv p] w fun e w' => e = .returned (.bool true) ∧ w' = w := by
  obtain ⟨_, _, _, _, c4⟩ := ht.cells
  clear ht
  unfold nv at *
  go_enter Try.func63, Try.ntmps63
  go_wp2_with fail
  go_ret
  exact ⟨rfl, rfl⟩
theorem TrAt.drewN {w : World} {o : Nat → Nat} {p m sz q : Nat} (h : TrAt w o p m sz q) (n : Nat) : TrAt (w.drewN n) o p m sz q := ⟨h.blk, h.tg⟩
theorem NdAt.drewN {w : World} {o : Nat → Nat} {n : Nat} {vk vv vc : Value} {F : Nf Ky} (h : NdAt w o n vk vv vc F) (m : Nat) : NdAt (w.drewN m) o n vk vv vc F := h.keep fun _ _ _ => ⟨rfl, rfl⟩
/-- A tree in memory. -/
structure Tm (w : World) (o : Nat → Nat) (M : Nat → Option (Nf Ky)) (h m lo hi : Nat) (t : BT Ky h) : Prop where
  gm : Gm w o M
  tr : Tr M h t
  ok : OkT m h lo hi t
  le : hi ≤ 1000
  ss : SortedL kct (toL h t)
/-- The places of a node's children. -/
def kidN : (h : Nat) → BT Ky h → List Nat
  | 0, _ => []
  | _ + 1, t => t.kds.map Nd.id
theorem tr_at {M : Nat → Option (Nf Ky)} {h : Nat} {t : BT Ky h} (ht : Tr M h t) : M t.id = some (nf t.its (kidN h t)) := by
  cases h with
  | zero => exact ht
  | succ h => exact ht.1
theorem Tm.top {w : World} {o : Nat → Nat} {M : Nat → Option (Nf Ky)} {h m lo hi : Nat} {t : BT Ky h} (T : Tm w o M h m lo hi t) : ∃ vk vv vc, NdAt w o t.id vk vv vc (nf t.its (kidN h t)) ∧ SortedL kct t.its ∧ t.its.length ≤ 1000 := by
  have e := tr_at T.tr
  obtain ⟨vk, vv, vc, hn⟩ := T.gm _ _ e
  have := T.ok.len
  have := T.le
  exact ⟨vk, vv, vc, hn, its_sorted T.ok T.ss, by omega⟩
theorem NdAt.row {w : World} {o : Nat → Nat} {n : Nat} {vk vv vc : Value} {F : Nf Ky} (h : NdAt w o n vk vv vc F) : ∃ A c A' c' A'' c'', vk = .slice A F.ks.length c ∧ vv = .slice A' F.vs.length c' ∧ vc = .slice A'' F.cs.length c'' ∧ F.ks.length ≤ c ∧ F.vs.length ≤ c' ∧ F.cs.length ≤ c'' := by
  obtain ⟨A, c, e1, h1⟩ := h.rk.form
  obtain ⟨A', c', e2, h2⟩ := h.rv.form
  obtain ⟨A'', c'', e3, h3⟩ := h.rc.form
  unfold ksR at e1 h1
  unfold vsR at e2 h2
  unfold csR at e3 h3
  rw [List.length_map] at e1 e2 e3 h1 h2 h3
  exact ⟨A, c, A', c', A'', c'', e1, e2, e3, h1, h2, h3⟩
theorem NdAt.vcell {w : World} {o : Nat → Nat} {n N c : Nat} {A : Option Addr} {vk vc : Value} {F : Nf Ky} (h : NdAt w o n vk (.slice A N c) vc F) {i : Nat} (hi : i < F.vs.length) : ∃ g, A = some ⟨g, 0, none⟩ ∧ w.cell? ⟨g, i, none⟩ = some (.int .u64 F.vs[i]) ∧ w.frozen? ⟨g, i, none⟩ = false := by
  obtain ⟨g, rfl, _⟩ := h.rv.cells (by unfold vsR; rw [List.length_map]; omega)
  have := h.rv.cell (j := i) (by unfold vsR; rw [List.length_map]; exact hi)
  exact ⟨g, rfl, by simpa [vsR] using this⟩
theorem NdAt.ccell {w : World} {o : Nat → Nat} {n N c : Nat} {A : Option Addr} {vk vv : Value} {F : Nf Ky} (h : NdAt w o n vk vv (.slice A N c) F) {i : Nat} (hi : i < F.cs.length) : ∃ g, A = some ⟨g, 0, none⟩ ∧ w.cell? ⟨g, i, none⟩ = some (nv F.cs[i]) ∧ w.frozen? ⟨g, i, none⟩ = false := by
  obtain ⟨g, rfl, _⟩ := h.rc.cells (by unfold csR; rw [List.length_map]; omega)
  have := h.rc.cell (j := i) (by unfold csR; rw [List.length_map]; exact hi)
  exact ⟨g, rfl, by simpa [csR] using this⟩
theorem NdAt.kcell {w : World} {o : Nat → Nat} {n N c : Nat} {A : Option Addr} {vv vc : Value} {F : Nf Ky} (h : NdAt w o n (.slice A N c) vv vc F) {i : Nat} (hi : i < F.ks.length) : ∃ g, A = some ⟨g, 0, none⟩ ∧ w.cell? ⟨g, i, none⟩ = some (kv F.ks[i]) ∧ w.frozen? ⟨g, i, none⟩ = false := by
  obtain ⟨g, rfl, _⟩ := h.rk.cells (by unfold ksR; rw [List.length_map]; omega)
  have := h.rk.cell (j := i) (by unfold ksR; rw [List.length_map]; exact hi)
  exact ⟨g, rfl, by simpa [ksR] using this⟩
theorem Tm.kid {w : World} {o : Nat → Nat} {M : Nat → Option (Nf Ky)} {h m lo hi : Nat} {t : BT Ky (h + 1)} (T : Tm w o M (h + 1) m lo hi t) (hm : m ≤ 1000) {C1 : List (BT Ky h)} {c : BT Ky h} {C2 : List (BT Ky h)} {P Q : List (Ky × Int)} (e : t.kds = C1 ++ c :: C2) (et : toL (h + 1) t = P ++ (toL h c ++ Q)) : Tm w o M h m (m / 2) m c := by
  have hc : c ∈ t.kds := by rw [e]; simp
  exact ⟨T.gm, T.tr.2 c hc, T.ok.2.2 c hc, hm, sorted_mid (et ▸ T.ss)⟩
def GetP (r : Option Int) (w : World) (e : Ending) (w' : World) : Prop := e = .returned (.tuple #[.int .u64 (r.getD 0), .bool r.isSome]) ∧ ∃ m, w' = w.drewN m
set_option maxRecDepth 100000 in
set_option maxHeartbeats 2000000 in
theorem get_any (p m sz : Nat) (h lo hi : Nat) (t : BT Ky h) (k : Ky) (w : World) (o : Nat → Nat) (M : Nat → Option (Nf Ky)) (ht : TrAt w o p m sz t.id) (T : Tm w o M h m lo hi t) (hm : m ≤ 1000) (hk : KRd w k) :
    Calls Try.prog 34 #[nv p, kv k] w (GetP (getL kct k (toL h t)) w) := by
  obtain ⟨_, _, _, _, c4⟩ := ht.cells
  have HT := Lib.hid ht
  have HTT := Lib.hid T
  have HK := Lib.hid hk
  clear ht T hk
  unfold nv at *
  go_enter Try.func34, Try.ntmps34
  go_wp2_with (go_at_call 63; refine (good_any _ _ _ _ _ _ HT.out).mono ?_; rintro e w ⟨rfl, rfl⟩)
  go_loopg [6] h (fun kq v6 wr => ∃ (lo' hi' : Nat) (t' : BT Ky kq), v6 = nv t'.id ∧ Hid (Tm w o M kq m lo' hi' t') ∧ Hid (getL kct k (toL h t) = getL kct k (toL kq t')) ∧ Hid (∃ mm, wr = w.drewN mm))
  case atStart => exact ⟨lo, hi, t, rfl, HTT, Lib.hid rfl, Lib.hid ⟨0, rfl⟩⟩
  case round =>
    obtain ⟨lo', hi', t', rfl, HQ, HG, HW⟩ := hrel
    obtain ⟨mm, rfl⟩ := HW.out
    obtain ⟨vk, vv, vc, hn, hs, hl⟩ := HQ.out.top
    obtain ⟨cs, hcs⟩ : ∃ cs, cs = kidN gk t' := ⟨_, rfl⟩
    rw [← hcs] at hn
    obtain ⟨i, is, ha⟩ := at_exists (k := k) hs
    have HF := Lib.hid (fun mq => find_at p m sz t.id t'.id vk vv vc t'.its cs k (w.drewN mq) o (HT.out.drewN _) (hn.drewN _) (by omega) hs (HK.out.drewN _) ha)
    obtain ⟨d0, d1, d2⟩ := hn.cells
    obtain ⟨A, c, A', c', A'', c'', rfl, rfl, rfl, q1, q2, q3⟩ := hn.row
    have hvl : (nf t'.its cs).vs.length = t'.its.length := List.length_map _
    have hkl : (nf t'.its cs).ks.length = t'.its.length := List.length_map _
    have hccl : (nf t'.its cs).cs.length = cs.length := rfl
    rw [hkl] at d0 q1
    rw [hvl] at d1 q2
    rw [hccl] at d2 q3
    have HA := Lib.hid ha
    cases is with
    | true =>
      have hi := ha.lt
      obtain ⟨g, e1, hv1, hv2⟩ := hn.vcell (i := i) (by omega)
      subst e1
      obtain ⟨I1, a, I2, X, Y, k1, k2, k3, k4, k5, _⟩ := node_is HQ.out.ok HQ.out.ss ha
      have hgv : (nf t'.its cs).vs[i]'(by omega) = a.2 := get_mid (A := I1.map (·.2)) (B := I2.map (·.2)) (by show t'.its.map (·.2) = _; rw [k1]; simp) (by rw [List.length_map]; exact k2) _
      have hgl : getL kct k (toL gk t') = some a.2 := by rw [k4]; exact getL_at k5 k3
      rw [hgv] at hv1
      have HR := Lib.hid (HG.out.trans hgl)
      have hi1 : (i : Int) < (t'.its.length : Int) := by omega
      clear hn hs ha hcs HW d0 d2 k1 k2 k3 k4 k5 hgv hgl
      unfold nv
      go_wp2_with (go_at_call 67; refine (HF.out _).mono ?_; rintro e w1 ⟨rfl, mq, rfl⟩)
      go_ret2
      rw [HR.out]
      exact ⟨rfl, _, rfl⟩
    | false =>
      cases gk with
      | zero =>
        obtain rfl : cs = [] := hcs
        obtain ⟨I1, I2, k1, _, k3, k4⟩ := ha.not
        have hgl : getL kct k (toL 0 t') = none := by
          show getL kct k t'.its = none
          rw [k1]; exact getL_new k3 k4
        have HR := Lib.hid (HG.out.trans hgl)
        simp only [List.length_nil] at d2 q3
        clear hn hs ha HW d0 d1 k1 k3 k4 hgl
        unfold nv
        go_wp2_with (go_at_call 67; refine (HF.out _).mono ?_; rintro e w1 ⟨rfl, mq, rfl⟩)
        go_ret2
        rw [HR.out]
        exact ⟨rfl, _, rfl⟩
      | succ gh =>
        obtain ⟨I1, I2, C1, cc, C2, k1, k2, k3, k4, k5, k6, k7, k8⟩ := node_go HQ.out.ok HQ.out.ss ha
        have hgl : getL kct k (toL (gh + 1) t') = getL kct k (toL gh cc) := by
          rw [k8, getL_lo k6, getL_hi k7]
        have HR := Lib.hid (HG.out.trans hgl)
        have HKT := Lib.hid (HQ.out.kid hm k2 k8)
        have hko := HQ.out.ok.kids
        have hile := ha.le
        have hcs2 : cs = t'.kds.map Nd.id := hcs
        have hcl : cs.length = t'.cs.length := by rw [hcs2]; exact List.length_map _
        obtain ⟨g, e1, hv1, hv2⟩ := hn.ccell (i := i) (by show i < cs.length; omega)
        subst e1
        have hcid : (nf t'.its cs).cs[i]'(by show i < cs.length; omega) = cc.id := get_mid (A := C1.map Nd.id) (B := C2.map Nd.id) (by show cs = _; rw [hcs2, k2]; simp) (by rw [List.length_map]; exact k4) _
        rw [hcid] at hv1
        have hi1 : (i : Int) < (cs.length : Int) := by omega
        have hcz : ¬ cs.length = 0 := by omega
        clear hn hs ha hcs hcl HW d0 d1 k1 k2 k3 k4 k5 k6 k7 k8 hgl hcid hcs2 hko
        unfold nv at *
        go_wp2_with (go_at_call 67; refine (HF.out _).mono ?_; rintro e w1 ⟨rfl, mq, rfl⟩)
        go_roundg gh
        case measure => omega
        case rel => exact ⟨_, _, cc, rfl, HKT, HR, Lib.hid ⟨_, rfl⟩⟩
end Go.Proofs.Ytfhonfeopkhdeaa.BC

namespace Go.Proofs.Ytfhonfeopkhdeaa.BC
open Go.RowKit Go.Proofs.YtfhonfeopkhdeaaW.PrintWords

/-- What put leaves of the tree that it was handed. -/
structure PutR (w : World) (o : Nat → Nat) (M : Nat → Option (Nf Ky)) (h : Nat) (t : BT Ky h) (m lo : Nat) (k : Ky) (v : Int) (w' : World) (k' : Ky) (t' : BT Ky h) (o' : Nat → Nat) (M' : Nat → Option (Nf Ky)) : Prop where
  kk : kct k' = kct k
  id : t'.id = t.id
  ok : OkT m h lo (m + 1) t'
  li : toL h t' = insL kct k' v (toL h t)
  gm : Gm w' o' M'
  tr : Tr M' h t'
  nd : (ids h t').Nodup
  fr : ∀ n ∈ ids h t', n ∈ ids h t ∨ w.heap.size ≤ n
  up : Up (fun x => ∃ n ∈ ids h t, x = n + 2) o o' w w'
  re : ∀ n, n ∉ ids h t → n < w.heap.size → M' n = M n
def PutP (w : World) (o : Nat → Nat) (M : Nat → Option (Nf Ky)) (h : Nat) (t : BT Ky h) (m lo : Nat) (k : Ky) (v : Int) (e : Ending) (w' : World) : Prop :=
  e = .returned (.tuple #[]) ∧ ∃ k' t' o' M', PutR w o M h t m lo k v w' k' t' o' M'
theorem Up.drew {S : Nat → Prop} {o o' : Nat → Nat} {w w' : World} {n : Nat} (h : Up S o o' (w.drewN n) w') : Up S o o' w w' := ⟨h.os, h.tape, h.output, h.size, h.blk, h.old, h.fb⟩
theorem Gm.drewN {w : World} {o : Nat → Nat} {M : Nat → Option (Nf Ky)} (h : Gm w o M) (n : Nat) : Gm (w.drewN n) o M := fun b F hF => by
  obtain ⟨a, b', c, hb⟩ := h b F hF
  exact ⟨a, b', c, hb.drewN n⟩
theorem Fb.drewN {w : World} {o : Nat → Nat} (h : Fb o w) (n : Nat) : Fb o (w.drewN n) := ⟨h.end_, h.le⟩
set_option maxRecDepth 100000 in
set_option maxHeartbeats 2000000 in
theorem put_is (p m sz q : Nat) (h lo : Nat) (t : BT Ky h) (k : Ky) (v : Int) (w : World) (o : Nat → Nat) (M : Nat → Option (Nf Ky)) (ht : TrAt w o p m sz q) (hf : Fb o w) (T : Tm w o M h m lo m t) (hnd : (ids h t).Nodup) (hk : KRd w k) {i : Nat} (ha : At kct t.its k i true) :
    Calls Try.prog 64 #[nv p, nv t.id, kv k, .int .u64 v] w (PutP w o M h t m lo k v) := by
  obtain ⟨vk, vv, vc, hn, hs, hl⟩ := T.top
  have HF := Lib.hid (find_at p m sz q t.id vk vv vc t.its _ k w o ht hn (by omega) hs hk ha)
  obtain ⟨d0, d1, d2⟩ := hn.cells
  obtain ⟨A, c, A', c', A'', c'', rfl, rfl, rfl, q1, q2, q3⟩ := hn.row
  have hvl : (nf t.its (kidN h t)).vs.length = t.its.length := List.length_map _
  obtain ⟨g, e1, hv1, hv2⟩ := hn.vcell (i := i) (by have := ha.lt; omega)
  subst e1
  have hi1 : (i : Int) < (t.its.length : Int) := by have := ha.lt; omega
  obtain ⟨I1, a, I2, X, Y, k1, k2, k3, k4, k5, k6⟩ := node_is T.ok T.ss ha
  rw [hvl] at d1 q2
  have hfin : ∀ n, PutP w o M h t m lo k v (.returned (.tuple #[])) ((w.drewN n).setCell ⟨g, i, none⟩ (.int .u64 v)) := fun n => by
    obtain ⟨hn2, hup⟩ := (hn.drewN n).vset (hf.drewN n) i v
    have hlen : (I1 ++ (a.1, v) :: I2).length = t.its.length := by rw [k1]; simp
    have hset : (⟨(nf t.its (kidN h t)).ks, (nf t.its (kidN h t)).vs.set i v, (nf t.its (kidN h t)).cs⟩ : Nf Ky) = nf (I1 ++ (a.1, v) :: I2) (kidN h t) := by
      unfold nf
      simp only [k1, Nf.mk.injEq, and_true]
      refine ⟨by simp, ?_⟩
      rw [← k2]
      simp
    rw [hset] at hn2
    refine ⟨rfl, k, ⟨t.id, I1 ++ (a.1, v) :: I2, t.cs⟩, o, setM M t.id (nf (I1 ++ (a.1, v) :: I2) (kidN h t)), ?_⟩
    have hids : ids h (⟨t.id, I1 ++ (a.1, v) :: I2, t.cs⟩ : BT Ky h) = ids h t := by cases h <;> rfl
    have hother : ∀ n, n ≠ t.id → setM M t.id (nf (I1 ++ (a.1, v) :: I2) (kidN h t)) n = M n := fun n hne => setM_other M _ hne
    refine ⟨rfl, rfl, ?_, ?_, (T.gm.drewN n).set hup (fun _ e => e) hn2, ?_, by rw [hids]; exact hnd, fun n hn => .inl (by rw [hids] at hn; exact hn), (hup.drew).mono (fun x e => ⟨t.id, id_mem h t, e⟩), fun n hn _ => hother n (fun e => hn (by rw [e]; exact id_mem h t))⟩
    · have := T.ok
      cases h with
      | zero => exact ⟨by rw [hlen]; exact this.1, by rw [hlen]; have := this.2; omega⟩
      | succ h => exact ⟨⟨by rw [hlen]; exact this.1.1, by rw [hlen]; have := this.1.2; omega⟩, by rw [hlen]; exact this.2.1, this.2.2⟩
    · rw [k6, k4]
      exact (insL_at k5 k3).symm
    · have := T.tr
      cases h with
      | zero => exact setM_same _ _ _
      | succ h =>
        refine ⟨setM_same _ _ _, fun c hc => (this.2 c hc).congr fun n hn => hother n fun e => ?_⟩
        have hnd2 : t.id ∉ t.kds.flatMap (ids h) := (List.nodup_cons.1 hnd).1
        exact hnd2 (List.mem_flatMap.2 ⟨c, hc, e ▸ hn⟩)
  have HFIN := Lib.hid hfin
  generalize (nf t.its (kidN h t)).vs[i]'_ = ov at hv1
  clear hn hs ht T hfin ha d0 d2 k1 k2 k3 k4 k5 k6 hnd hf
  unfold nv at *
  go_enter Try.func64, Try.ntmps64
  go_wp2_with (go_at_call 67; refine HF.out.mono ?_; rintro e w1 ⟨rfl, mq, rfl⟩)
  go_end0
  exact HFIN.out mq
end Go.Proofs.Ytfhonfeopkhdeaa.BC

namespace Go.Proofs.Ytfhonfeopkhdeaa.BC
open Go.RowKit Go.Proofs.YtfhonfeopkhdeaaW.PrintWords

theorem rw_slice {w : World} {e : TypeId} {v : Value} {xs : List Value} (h : Rw w e v xs) : ∃ A n c, v = .slice A n c := by
  obtain ⟨A, c, e, _⟩ := h.form
  exact ⟨A, _, c, e⟩
theorem nw_back {W w : World} {v v' : Value} (h : Nw W v v') (hs : w.heap.size ≤ W.heap.size) : Nw w v v' := h.imp id fun ⟨g, e, h⟩ => ⟨g, e, Nat.le_trans hs h⟩
theorem grown_of {w w1 w2 : World} {row : Option Nat} (hb : Below w.heap.size w w1) (h : w1.grownBy w2 row) : w.grownBy w2 row :=
  ⟨h.os.trans hb.os, h.tape.trans hb.tape, h.output.trans hb.output, Nat.le_trans hb.size h.size, fun b hb3 hne => (h.block b (Nat.lt_of_lt_of_le hb3 hb.size) hne).trans (hb.block b hb3)⟩
theorem mid_plain {w w1 w2 : World} {o : Nat → Nat} {v v' : Value} (hf : Fb o w) (hb : Below w.heap.size w w1) (hg : w1.grownBy w2 v.ownBlock) (hn : Nw w1 v v') : Mid o o w w2 v v' :=
  ⟨grown_of hb hg, fun _ _ => rfl, hf.mono (Nat.le_trans hb.size hg.size), hn.imp id fun ⟨g, e, h⟩ => ⟨g, e, Nat.le_trans hb.size h, hf.end_ g (Nat.le_trans hb.size h)⟩⟩
theorem mid_key {w w0 w1 w2 : World} {o : Nat → Nat} {n : Nat} {vk vv vc v' : Value} {F : Nf Ky} {k' : Ky} (h : NdAt w o n vk vv vc F) (hf : Fb o w) (_h0 : Below w.heap.size w w0) (hs : w0.heap.size = w.heap.size) (hb : Below w.heap.size w w1) (hk : KNew w0 w1 k') (hg : w1.grownBy w2 vk.ownBlock) (hn : Nw w1 vk v') : Mid o (ktg o k') w w2 vk v' ∧ KOk w2 (ktg o k') k' := by
  obtain ⟨a, b, c, d⟩ := hk o (fun b hb => hf.end_ b (by omega))
  rw [hs] at b
  have hsz := hb.size
  have hsz2 := hg.size
  refine ⟨⟨grown_of hb hg, b, ⟨fun x hx => c x (by omega), fun x => ?_⟩, hn.imp id fun ⟨g, e, h⟩ => ⟨g, e, by omega, c g h⟩⟩, a.keep fun x hx ht => ⟨hg.block x hx (fun e => ?_), ht⟩⟩
  · have := hf.le x
    rcases d x with e | e <;> rw [e]
    · omega
    · have := h.lt; omega
  · have h1 := h.tk x e.symm
    rw [b x (h.rk.lt e.symm), h1] at ht
    omega
/-- One key more, laid into the row of keys. -/
theorem key_ins {w : World} {o : Nat → Nat} {n : Nat} {vk vv vc : Value} {F : Nf Ky} (hn : NdAt w o n vk vv vc F) (hl : F.ks.length ≤ 1000000) {i : Nat} (hi : i ≤ F.ks.length) (w1 : World) (k' : Ky) (hb : Below w.heap.size w w1) :
    Calls Try.prog 86 #[vk, .int .i64 i, .slice (some ⟨w1.heap.size, 0, none⟩) 1 1] (w1.alloc (.cells #[kv k'] 22)) fun e w2 => ∃ v', e = .returned v' ∧ Rw w2 22 v' (ksR (F.ks.take i ++ k' :: F.ks.drop i)) ∧ w1.grownBy w2 vk.ownBlock ∧ Nw w1 vk v' := by
  have hb2 : Below w.heap.size w (w1.alloc (.cells #[kv k'] 22)) := hb.alloc hb.size _
  have hr : Rw (w1.alloc (.cells #[kv k'] 22)) 22 vk (ksR F.ks) := hn.rk.keep fun g _ hl => hb2.block g hl
  have hkl : (ksR F.ks).length = F.ks.length := List.length_map _
  refine (insC_any vk (ksR F.ks) i (kv k') w1.heap.size _ hr (ksR_one _) (kv_one k') (by omega) (by omega) (by show (w1.heap.push _)[w1.heap.size]? = _; simp) (fun e => ?_)).mono ?_
  · have := hn.rk.lt e.symm
    have := hb.size
    omega
  · rintro e w2 ⟨v', rfl, h1, h2, h3⟩
    refine ⟨v', rfl, ?_, ?_, nw_back h3 (by simp)⟩
    · have e : ksR (F.ks.take i ++ k' :: F.ks.drop i) = (ksR F.ks).take i ++ kv k' :: (ksR F.ks).drop i := by simp [ksR, List.map_take, List.map_drop]
      rw [e]; exact h1
    · exact grown_of ((Below.refl w1.heap.size w1).alloc (Nat.le_refl _) _) h2
theorem val_ins {w : World} {o : Nat → Nat} {n : Nat} {vk vv vc : Value} {F : Nf Ky} (hn : NdAt w o n vk vv vc F) (hl : F.vs.length ≤ 1000000) {i : Nat} (hi : i ≤ F.vs.length) (w1 : World) (x : Int) (hb : Below w.heap.size w w1) :
    Calls Try.prog 77 #[vv, .int .i64 i, .slice (some ⟨w1.heap.size, 0, none⟩) 1 1] (w1.alloc (.cells #[.int .u64 x] 38)) fun e w2 => ∃ v', e = .returned v' ∧ Rw w2 38 v' (vsR (F.vs.take i ++ x :: F.vs.drop i)) ∧ w1.grownBy w2 vv.ownBlock ∧ Nw w1 vv v' := by
  have hb2 : Below w.heap.size w (w1.alloc (.cells #[.int .u64 x] 38)) := hb.alloc hb.size _
  have hr : Rw (w1.alloc (.cells #[.int .u64 x] 38)) 38 vv (vsR F.vs) := hn.rv.keep fun g _ hl => hb2.block g hl
  have hkl : (vsR F.vs).length = F.vs.length := List.length_map _
  refine (insU_any vv (vsR F.vs) i (.int .u64 x) w1.heap.size _ hr (vsR_one _) rfl (by omega) (by omega) (by show (w1.heap.push _)[w1.heap.size]? = _; simp) (fun e => ?_)).mono ?_
  · have := hn.rv.lt e.symm
    have := hb.size
    omega
  · rintro e w2 ⟨v', rfl, h1, h2, h3⟩
    refine ⟨v', rfl, ?_, ?_, nw_back h3 (by simp)⟩
    · have e : vsR (F.vs.take i ++ x :: F.vs.drop i) = (vsR F.vs).take i ++ .int .u64 x :: (vsR F.vs).drop i := by simp [vsR, List.map_take, List.map_drop]
      rw [e]; exact h1
    · exact grown_of ((Below.refl w1.heap.size w1).alloc (Nat.le_refl _) _) h2
theorem kid_ins {w : World} {o : Nat → Nat} {n : Nat} {vk vv vc : Value} {F : Nf Ky} (hn : NdAt w o n vk vv vc F) (hl : F.cs.length ≤ 1000000) {i : Nat} (hi : i ≤ F.cs.length) (w1 : World) (x : Nat) (hb : Below w.heap.size w w1) :
    Calls Try.prog 89 #[vc, .int .i64 i, .slice (some ⟨w1.heap.size, 0, none⟩) 1 1] (w1.alloc (.cells #[nv x] 100)) fun e w2 => ∃ v', e = .returned v' ∧ Rw w2 100 v' (csR (F.cs.take i ++ x :: F.cs.drop i)) ∧ w1.grownBy w2 vc.ownBlock ∧ Nw w1 vc v' := by
  have hb2 : Below w.heap.size w (w1.alloc (.cells #[nv x] 100)) := hb.alloc hb.size _
  have hr : Rw (w1.alloc (.cells #[nv x] 100)) 100 vc (csR F.cs) := hn.rc.keep fun g _ hl => hb2.block g hl
  have hkl : (csR F.cs).length = F.cs.length := List.length_map _
  refine (insM_any vc (csR F.cs) i (nv x) w1.heap.size _ hr (csR_one _) rfl (by omega) (by omega) (by show (w1.heap.push _)[w1.heap.size]? = _; simp) (fun e => ?_)).mono ?_
  · have := hn.rc.lt e.symm
    have := hb.size
    omega
  · rintro e w2 ⟨v', rfl, h1, h2, h3⟩
    refine ⟨v', rfl, ?_, ?_, nw_back h3 (by simp)⟩
    · have e : csR (F.cs.take i ++ x :: F.cs.drop i) = (csR F.cs).take i ++ nv x :: (csR F.cs).drop i := by simp [csR, List.map_take, List.map_drop]
      rw [e]; exact h1
    · exact grown_of ((Below.refl w1.heap.size w1).alloc (Nat.le_refl _) _) h2
theorem NdAt.hold {w W : World} {o : Nat → Nat} {n : Nat} {vk vv vc : Value} {F : Nf Ky} (h : NdAt w o n vk vv vc F) {row : Option Nat} (hg : w.grownBy W row) (hne : row ≠ some n) : W.cell? ⟨n, 0, none⟩ = some vk ∧ W.cell? ⟨n, 1, none⟩ = some vv ∧ W.cell? ⟨n, 2, none⟩ = some vc ∧ (∀ j, W.frozen? ⟨n, j, none⟩ = false) := by
  have hb := blk_grown h.blk hg (fun e => hne e.symm)
  refine ⟨?_, ?_, ?_, blk_frozen hb⟩ <;> rw [blk_cell hb] <;> rfl
theorem NdAt.nek {w : World} {o : Nat → Nat} {n : Nat} {vk vv vc : Value} {F : Nf Ky} (h : NdAt w o n vk vv vc F) : vk.ownBlock ≠ some n ∧ vv.ownBlock ≠ some n ∧ vc.ownBlock ≠ some n := by
  refine ⟨fun e => ?_, fun e => ?_, fun e => ?_⟩
  · obtain ⟨cur, hc⟩ := h.rk.blk e
    exact blk_ne hc h.blk (by decide) rfl
  · obtain ⟨cur, hc⟩ := h.rv.blk e
    exact blk_ne hc h.blk (by decide) rfl
  · obtain ⟨cur, hc⟩ := h.rc.blk e
    exact blk_ne hc h.blk (by decide) rfl
theorem below_grown {w W : World} (h : Below w.heap.size w W) (row : Option Nat) : w.grownBy W row := ⟨h.os, h.tape, h.output, h.size, fun k hk _ => h.block k hk⟩
theorem below_drewN (w : World) (n : Nat) : Below w.heap.size w (w.drewN n) := ⟨rfl, rfl, rfl, Nat.le_refl _, fun _ _ => rfl⟩
theorem lo_ct {A : List (Ky × Int)} {k k' : Ky} (e : kct k' = kct k) (h : Lo kct A k) : Lo kct A k' := fun x hx => by
  have := h x hx
  unfold kc at *
  rw [e]; exact this
theorem hi_ct {A : List (Ky × Int)} {k k' : Ky} (e : kct k' = kct k) (h : Hi kct A k) : Hi kct A k' := fun x hx => by
  have := h x hx
  unfold kc at *
  rw [e]; exact this
theorem leaf_fin {w w' : World} {o o' : Nat → Nat} {M : Nat → Option (Nf Ky)} {m lo : Nat} {t : BT Ky 0} {k k' : Ky} {v : Int} {vk vv vc : Value} (T : Tm w o M 0 m lo m t) {i : Nat} (ha : At kct t.its k i false) (hU : Up (· = t.id + 2) o o' w w')
    (hN : NdAt w' o' t.id vk vv vc ⟨(nf t.its (kidN 0 t)).ks.take i ++ k' :: (nf t.its (kidN 0 t)).ks.drop i, (nf t.its (kidN 0 t)).vs.take i ++ v :: (nf t.its (kidN 0 t)).vs.drop i, (nf t.its (kidN 0 t)).cs⟩) (hk : kct k' = kct k) :
    PutP w o M 0 t m lo k v (.returned (.tuple #[])) w' := by
  obtain ⟨A, B, e, hl, hlo, hhi⟩ := ha.not
  have hF : (⟨(nf t.its (kidN 0 t)).ks.take i ++ k' :: (nf t.its (kidN 0 t)).ks.drop i, (nf t.its (kidN 0 t)).vs.take i ++ v :: (nf t.its (kidN 0 t)).vs.drop i, (nf t.its (kidN 0 t)).cs⟩ : Nf Ky) = nf (A ++ (k', v) :: B) [] := by
    subst hl
    unfold nf
    simp [e, kidN]
  rw [hF] at hN
  have hlen : (A ++ (k', v) :: B).length = t.its.length + 1 := by rw [e]; simp; omega
  have hok := T.ok
  refine ⟨rfl, k', ⟨t.id, A ++ (k', v) :: B, t.cs⟩, o', setM M t.id (nf (A ++ (k', v) :: B) []), ⟨hk, rfl, ⟨?_, ?_⟩, ?_, T.gm.set hU (fun _ e => e) hN, setM_same _ _ _, List.pairwise_singleton _ _, fun n hn => .inl hn, hU.mono (fun x e => ⟨t.id, List.mem_singleton.2 rfl, e⟩), fun n hn _ => setM_other M _ (fun e => hn (List.mem_singleton.2 e))⟩⟩
  · show lo ≤ (A ++ (k', v) :: B).length
    have := hok.1; omega
  · show (A ++ (k', v) :: B).length ≤ m + 1
    have := hok.2; omega
  · show A ++ (k', v) :: B = insL kct k' v t.its
    rw [e]
    exact (insL_new (lo_ct hk hlo) (hi_ct hk hhi)).symm
set_option maxRecDepth 100000 in
set_option maxHeartbeats 4000000 in
theorem put_leaf (p m sz q : Nat) (lo : Nat) (t : BT Ky 0) (k : Ky) (v : Int) (w : World) (o : Nat → Nat) (M : Nat → Option (Nf Ky)) (ht : TrAt w o p m sz q) (hf : Fb o w) (T : Tm w o M 0 m lo m t) (_hm : m ≤ 64) (hk : KRd w k) {i : Nat} (ha : At kct t.its k i false) :
    Calls Try.prog 64 #[nv p, nv t.id, kv k, .int .u64 v] w (PutP w o M 0 t m lo k v) := by
  obtain ⟨vk, vv, vc, hn, hs, hl⟩ := T.top
  have HF := Lib.hid (find_at p m sz q t.id vk vv vc t.its _ k w o ht hn (by omega) hs hk ha)
  have d2 := hn.cells.2.2
  obtain ⟨A, c, A', c', A'', c'', rfl, rfl, rfl, q1, q2, q3⟩ := hn.row
  have HN := Lib.hid hn
  have HT := Lib.hid ht
  have HTT := Lib.hid T
  have HFB := Lib.hid hf
  have HA := Lib.hid ha
  have HK := Lib.hid hk
  have hz : (nf t.its (kidN 0 t)).cs.length = 0 := rfl
  rw [hz] at d2
  generalize (nf t.its (kidN 0 t)).ks.length = nk at HN q1
  generalize (nf t.its (kidN 0 t)).vs.length = nn at HN q2
  generalize (nf t.its (kidN 0 t)).cs.length = nc at HN q3
  clear hn hs ht T ha hf hk hz
  unfold nv at *
  go_enter Try.func64, Try.ntmps64
  go_wp2_with (go_at_call 67; refine HF.out.mono ?_; rintro e w1 ⟨rfl, mq, rfl⟩)
  have HB0 := Lib.hid (show Below w.heap.size w (w.drewN mq).drew from (below_drewN w mq).drew)
  have HCL := Lib.hid (show ∀ W, Below w.heap.size w W → W.cell? ⟨t.id, 0, none⟩ = some (.slice A nk c) from fun W hW => (HN.out.hold (below_grown hW none) (by simp)).1)
  have c1 := HN.out.cells.1
  have c2 := HT.out.cells.2.2.2.1
  have HKI := Lib.hid (fun w1 k' (hb : Below w.heap.size w w1) => key_ins HN.out (by show (t.its.map _).length ≤ _; rw [List.length_map]; omega) (i := i) (by show i ≤ (t.its.map _).length; rw [List.length_map]; exact HA.out.le) w1 k' hb)
  have HOW := Lib.hid (kown_any k (w.drewN mq).drew ((HK.out.drewN mq).below ((Below.refl _ _).drew) (Nat.le_refl _)))
  go_region_law (first
    | (go_simp; go_at_call 61; refine HOW.out.mono ?_; rintro e w1 ⟨k', rfl, hk1, hb1, hk2⟩; have HB1 := Lib.hid (HB0.out.trans (hb1.mono (Nat.le_refl _))); have c3 := HCL.out _ HB1.out; have HI := Lib.hid (HKI.out w1 k' HB1.out); have c4 := HCL.out _ (HB1.out.alloc HB1.out.size (.cells #[kv k'] 22)); unfold kv at HI c4 ⊢)
    | (go_simp; go_at_call 86; refine HI.out.mono ?_; rintro e w2 ⟨vk', rfl, hr2, hg2, hn2⟩; obtain ⟨Ak, lk, ck, rfl⟩ := rw_slice hr2; obtain ⟨c5, c6, c7, c8⟩ := HN.out.hold (grown_of HB1.out hg2) HN.out.nek.1; have c9 := c8 0))
  all_goals
    obtain ⟨hmid, hko⟩ := mid_key HN.out HFB.out HB0.out rfl HB1.out hk2 hg2 hn2
    obtain ⟨hN3, hU3⟩ := HN.out.sk hmid hr2 (fun x hx => by
      rcases List.mem_append.1 hx with h | h
      · exact .inl (List.mem_of_mem_take h)
      · rcases List.mem_cons.1 h with rfl | h
        · exact .inr hko
        · exact .inl (List.mem_of_mem_drop h))
    have HN3 := Lib.hid hN3
    have HU3 := Lib.hid hU3
    have HK1 := Lib.hid hk1
    clear hmid hko hN3 hU3 c1 c3 c4 HI HOW HKI HCL hk2 hg2 hn2 hr2 c7 c8 c9 hk1 hb1
    obtain ⟨w3, hw3⟩ : ∃ w3, w3 = w2.setCell ⟨t.id, 0, none⟩ (.slice Ak lk ck) := ⟨_, rfl⟩
    rw [← hw3] at HN3 HU3 ⊢
    have c10 := HN3.out.cells.2.1
    have c11 := blk_frozen HN3.out.blk 1
    clear hw3 c5 c6
    have HVI := Lib.hid (val_ins HN3.out (by show (t.its.map _).length ≤ _; rw [List.length_map]; omega) (i := i) (by show i ≤ (t.its.map _).length; rw [List.length_map]; exact HA.out.le) w3 v (Below.refl _ _))
    go_wp2_with (go_at_call 77; refine HVI.out.mono ?_; rintro e w4 ⟨vv', rfl, hr4, hg4, hn4⟩; obtain ⟨Av, lv, cv, rfl⟩ := rw_slice hr4; obtain ⟨e5, e6, e7, e8⟩ := HN3.out.hold hg4 HN3.out.nek.2.1; have e9 := e8 1)
    obtain ⟨hN5, hU5⟩ := HN3.out.sv (mid_plain HU3.out.fb (Below.refl _ _) hg4 hn4) hr4
    go_end0
    exact leaf_fin HTT.out HA.out (HU3.out.trans HFB.out hU5 (fun _ e => e) (fun _ _ e => e)) hN5 HK1.out
end Go.Proofs.Ytfhonfeopkhdeaa.BC
