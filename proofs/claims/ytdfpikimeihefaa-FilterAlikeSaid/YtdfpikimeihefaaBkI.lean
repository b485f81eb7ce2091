/-
  slices.Backward over filters, as an iterator that is counted. No premise.
-/
import Derived.Test.YtdfpikimeihefaaRngA
import Derived.Test.YtdfpikimeihefaaChnI
import Derived.Test.YtdfpikimeihefaaFiK
namespace Go.Proofs.Ytdfpikimeihefaa
open Go.RowKit Go.Shelf Go.Proofs.YtdfpikimeihefaaW.PrintWords
attribute [local go_sem] Oper.semAt_some

theorem Fls.same {w w' : World} {A : Option Addr} {l : List Fl} (h : Fls w A l) (hs : ∀ ad, A = some ad → 0 < l.length → w'.heap[ad.block]? = w.heap[ad.block]?) : Fls w' A l := by
  refine ⟨h.1, fun h0 => ?_⟩
  obtain ⟨ad, e, hc⟩ := h.2 h0
  have hb := hs ad e h0
  refine ⟨ad, e, fun i hi => ?_⟩
  obtain ⟨h1, h2⟩ := hc i hi
  exact ⟨(World.cell?_of_block (w := w) (a := ad.add (i * 2)) (by rw [add_block]; exact hb)).trans h1, (World.cell?_of_block (w := w) (a := ad.add (i * 2 + 1)) (by rw [add_block]; exact hb)).trans h2⟩
/-- What comes in round k. -/
def bkF (l : List Fl) (k : Nat) : Fl := l.getD (l.length - 1 - k) (0, 0)
def bkv (l : List Fl) (k : Nat) : Array Value := #[.int .i64 ((l.length - 1 - k : Nat) : Int), .agg #[.int .i64 (bkF l k).1, .int .i64 (bkF l k).2]]
def bkS (bs : Nat) (A : Option Addr) (l : List Fl) (i : Nat) : Prop := i = bs ∨ (0 < l.length ∧ ∃ ad, A = some ad ∧ i = ad.block)
set_option maxHeartbeats 400000 in
theorem backward_any (A : Option Addr) (n c : Nat) (w : World) :
    Calls Try.prog 26 #[.slice A n c] w fun e w' => e = .returned (.func (.func 48) #[] #[.pointer (some ⟨w.heap.size, 0, none⟩)]) ∧ w.alloc (.cells #[.slice A n c] 22) = w' := by
  go_enter Try.func26, Try.ntmps26
  go_wp2_with fail
  go_ret
  exact ⟨rfl, rfl⟩
set_option maxRecDepth 100000 in
set_option maxHeartbeats 2000000 in
theorem backward_seq (F : Fence) (n : Nat) (hF : F.fn 48) (hro : F.round = none) (hn : 1 ≤ n) (bs : Nat) (A : Option Addr) (cap : Nat) (l : List Fl) (w : World) (hr : Fls w A l)
    (hbs : w.heap[bs]? = some (.cells #[.slice A l.length cap] 22 (0, 0))) :
    SeqI F n Try.prog 48 #[.pointer (some ⟨bs, 0, none⟩)] (bkv l) (bkS bs A l) (fun _ => False) (fun _ X Y => Same (bkS bs A l) X Y) l.length w := by
  intro L J Jx W hW hS hJ hJx hY h0
  have HS0 := Lib.hid hS
  have HY := Lib.hid hY
  have HBS := Lib.hid hbs
  have HR := Lib.hid hr
  have hll := hr.1
  clear hS hJ hJx hY hbs hr
  have hcs := (blk_cell ((HS0.out bs (.inl rfl)).trans HBS.out) 0)
  simp only [List.getElem?_toArray, List.getElem?_cons_zero] at hcs
  refine callsIn_of_wp Try.func48 rfl hF ?_ hro
  simp only [Try.ntmps48, List.size_toArray, List.length_cons, List.length_nil, Nat.reduceAdd, Nat.reduceSub, Array.replicate_succ, Array.replicate_zero, List.push_toArray, List.append_toArray, List.nil_append, List.cons_append]
  gi_wp2
  clear hcs
  gi_loopw [3] (fun t wr => ∃ k m : Nat, k + m = l.length ∧ t = .int .i64 ((m : Int) - 1) ∧ Hid (J k wr) ∧ Hid (Same (bkS bs A l) w wr)) (fun t _ => (intOf t + 1).toNat)
  case atStart => exact ⟨0, l.length, by omega, rfl, h0, HS0.out⟩
  case round =>
    obtain ⟨k, m, hkm, rfl, HJk, HSk⟩ := hrel
    have hcs := (blk_cell ((HSk.out bs (.inl rfl)).trans HBS.out) 0)
    simp only [List.getElem?_toArray, List.getElem?_cons_zero] at hcs
    rcases Nat.eq_zero_or_pos m with rfl | hm
    · gi_wp2
      go_end0
      exact ⟨⟨_, rfl⟩, .inl (by rw [← show k = l.length from by omega]; exact HJk.out)⟩
    · obtain ⟨j, rfl⟩ : ∃ j, m = j + 1 := ⟨m - 1, by omega⟩
      have hFr := HR.out.same (w' := wr) (fun ad e h => HSk.out ad.block (.inr ⟨h, ad, e, rfl⟩))
      obtain ⟨ad, rfl, hc⟩ := hFr.2 (by omega)
      obtain ⟨hc0, hc1⟩ := hc j (by omega)
      obtain ⟨hc2, hc3⟩ := snd_cell hc1
      obtain ⟨fn, tmps, assign, body, hy, hR⟩ := HY.out k wr (by omega) HJk.out
      unfold bkv bkF at hy
      rw [show l.length - 1 - k = j from by omega] at hy
      generalize l.getD j (0, 0) = f at hy hc0 hc1 hc2 hc3
      obtain ⟨kk, d⟩ := f
      simp only at hy hc0 hc1 hc2 hc3
      have HRo := Lib.hid hR
      have HKM := Lib.hid hkm
      rw [show (((j + 1 : Nat) : Int) - 1) = (j : Int) from by omega]
      have hjl : j < l.length := by omega
      clear hR hc hFr hkm
      gi_wp2
      refine HRo.out.mono ?_
      rintro e1 W3 (⟨rfl, hJ3, hk3⟩ | ⟨rfl, hJx3⟩)
      · have HS3 := Lib.hid (HSk.out.trans hk3)
        have HJ3 := Lib.hid hJ3
        clear hk3 hJ3 hy hcs hc0 hc1 hc2 hc3
        gi_wp2
        go_roundw
        case rel => exact ⟨k + 1, j, by have := HKM.out; omega, rfl, HJ3.out, HS3.out⟩
        case measure => simp [intOf]
      · gi_wp2
        refine bodyPost_ret (results_none rfl _ _ _) rfl ?_
        exact ⟨⟨_, rfl⟩, .inr ⟨k + 1, by have := HKM.out; omega, hJx3⟩⟩
end Go.Proofs.Ytdfpikimeihefaa
