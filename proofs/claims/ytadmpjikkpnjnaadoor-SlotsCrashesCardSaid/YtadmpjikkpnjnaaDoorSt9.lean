/-
  store.File.Copy. No premise.
-/
import Derived.Test.YtadmpjikkpnjnaaDoorSt8
namespace Go.Proofs.YtadmpjikkpnjnaaDoor
open Go.RowKit Go.Shelf Go.Proofs.YtadmpjikkpnjnaaDoorW.PrintWords

def CopyPost (o : Nat → Nat) (i : Nat) (F : FM) (w : World) (e : Ending) (w' : World) : Prop :=
  ∃ p o', e = .returned (.pointer (some ⟨p, 0, none⟩)) ∧ FileA w' o' i p F ∧ Upd o o' i w w' ∧ Below w.heap.size w w' ∧ w.heap.size ≤ p
theorem row_weaken {w : World} {base e size n : Nat} {v : Value} {xs : List Value} (h : w.ownsRow base e size v n xs) : w.ownsRow 0 e size v n xs := by
  refine ⟨h.1, ?_⟩
  rcases h.2 with hn | ⟨g, cap, cur, h1, _, rest⟩
  · exact .inl hn
  · exact .inr ⟨g, cap, cur, h1, Nat.zero_le _, rest⟩
theorem row_setF {w : World} {base e size n g j : Nat} {v : Value} {xs : List Value} {cs : Array Value} {t : TypeId} (h : w.ownsRow base e size v n xs) (hg : w.heap[g]? = some (.cells cs t (0, 0))) (ht : t ≠ e) (u : Value) : (w.setCell ⟨g, j, none⟩ u).ownsRow base e size v n xs :=
  ownsRow_keep h fun g' hg' _ => Below.heap_setCell _ _ _ _ (fun e' => by
    obtain ⟨cs', hc⟩ := ownsRow_is h hg'
    rw [show g' = g from e', hg] at hc
    injection hc with hc
    injection hc with _ e2
    exact ht e2)
theorem copy_end (o : Nat → Nat) (j : Nat) (w W1 w2 w3 : World) (F : FM) (C : Array Value) (_hfr : Fr o w) (h1 : Below w.heap.size w W1) (hs1 : W1.heap.size = w.heap.size + 1) (A2 : Option Addr) (n2 c2 : Nat) (ho2 : Own w2 W1.heap.size (.slice A2 n2 c2) F.b) (hb2 : Below W1.heap.size W1 w2)
    (A3 : Option Addr) (n3 c3 : Nat) (L3 : List Rw) (hr : RawsO w3 w2.heap.size (.slice A3 n3 c3) L3) (hrs : rws L3 = F.raws) (hb3 : Below w2.heap.size w2 w3)
    (hq : w3.heap[w.heap.size]? = some (.cells C 78 (0, 0))) (hC : (C.setIfInBounds 1 (.slice A2 n2 c2)).setIfInBounds 5 (.slice A3 n3 c3) = #[.bool true, .slice A2 n2 c2, .int .i64 F.most, .bool F.off, .int .i64 F.left, .slice A3 n3 c3]) :
    ∃ o', FileA ((w3.setCell ⟨w.heap.size, 1, none⟩ (.slice A2 n2 c2)).setCell ⟨w.heap.size, 5, none⟩ (.slice A3 n3 c3)) o' j w.heap.size F ∧ Upd o o' j w ((w3.setCell ⟨w.heap.size, 1, none⟩ (.slice A2 n2 c2)).setCell ⟨w.heap.size, 5, none⟩ (.slice A3 n3 c3)) ∧
      Below w.heap.size w ((w3.setCell ⟨w.heap.size, 1, none⟩ (.slice A2 n2 c2)).setCell ⟨w.heap.size, 5, none⟩ (.slice A3 n3 c3)) := by
  classical
  have hs2 := hb2.size
  have hs3 := hb3.size
  have hq1 := blk_set hq 1 (.slice A2 n2 c2)
  have hq2 := blk_set hq1 5 (.slice A3 n3 c3)
  have hsz : ((w3.setCell ⟨w.heap.size, 1, none⟩ (.slice A2 n2 c2)).setCell ⟨w.heap.size, 5, none⟩ (.slice A3 n3 c3)).heap.size = w3.heap.size := by simp [World.setCell]
  have hlow : Below w.heap.size w ((w3.setCell ⟨w.heap.size, 1, none⟩ (.slice A2 n2 c2)).setCell ⟨w.heap.size, 5, none⟩ (.slice A3 n3 c3)) :=
    ((h1.trans ((hb2.trans (hb3.mono hs2)).mono (by omega))).setCell (p := ⟨w.heap.size, 1, none⟩) (Nat.le_refl _) _).setCell (p := ⟨w.heap.size, 5, none⟩) (Nat.le_refl _) _
  have h3row : ∀ g, Value.ownBlock (.slice A3 n3 c3) = some g → w2.heap.size ≤ g ∧ g < w3.heap.size := fun g hg => World.ownsRow.lt hr.own g hg
  have h2row : ∀ g, Value.ownBlock (.slice A2 n2 c2) = some g → w.heap.size + 1 ≤ g ∧ g < w2.heap.size := fun g hg => by have := World.ownsRow.lt ho2 g hg; omega
  have hrr : ∀ r ∈ L3, ∀ a, r.A = some a → w2.heap.size ≤ a.block ∧ a.block < w3.heap.size ∧ ∃ cs, w3.heap[a.block]? = some (.cells cs 5 (0, 0)) := fun r hr' a ha => by
    have h4 := hr.each r hr'
    have h5 := World.ownsRow.lt h4 a.block (by rw [ha]; rfl)
    exact ⟨h5.1, h5.2, ownsRow_is h4 (by rw [ha]; rfl)⟩
  obtain ⟨o', ho'⟩ : ∃ o' : Nat → Nat, o' = fun k => if k < w.heap.size then o k else if k = w.heap.size ∨ Value.ownBlock (.slice A2 n2 c2) = some k ∨ Value.ownBlock (.slice A3 n3 c3) = some k then j else if ∃ r ∈ L3, ∃ a, r.A = some a ∧ a.block = k then 9 else 0 := ⟨_, rfl⟩
  have ev : ∀ k, o' k = if k < w.heap.size then o k else if k = w.heap.size ∨ Value.ownBlock (.slice A2 n2 c2) = some k ∨ Value.ownBlock (.slice A3 n3 c3) = some k then j else if ∃ r ∈ L3, ∃ a, r.A = some a ∧ a.block = k then 9 else 0 := fun k => by rw [ho']
  have e1 : o' w.heap.size = j := by rw [ev, if_neg (Nat.lt_irrefl _), if_pos (.inl rfl)]
  have e2 : ∀ g, Value.ownBlock (.slice A2 n2 c2) = some g → o' g = j := fun g hg => by
    have := h2row g hg
    rw [ev, if_neg (by omega), if_pos (.inr (.inl hg))]
  have e3 : ∀ g, Value.ownBlock (.slice A3 n3 c3) = some g → o' g = j := fun g hg => by
    have := h3row g hg
    rw [ev, if_neg (by omega), if_pos (.inr (.inr hg))]
  have e4 : ∀ r ∈ L3, ∀ a, r.A = some a → o' a.block = 9 := fun r hr' a ha => by
    obtain ⟨h5, h6, cs, h7⟩ := hrr r hr' a ha
    rw [ev, if_neg (by omega), if_neg, if_pos ⟨r, hr', a, ha, rfl⟩]
    rintro (h | h | h)
    · omega
    · have := h2row _ h
      omega
    · obtain ⟨cs', h8⟩ := ownsRow_is hr.own h
      rw [h7] at h8
      injection h8 with h8
      injection h8 with _ h9
      exact absurd h9 (by decide)
  refine ⟨o', ⟨.slice A2 n2 c2, .slice A3 n3 c3, L3, ?_, e1, ?_, e2, ⟨?_, e3, fun r hr' => ⟨?_, fun a ha => ⟨e4 r hr' a ha, ?_⟩⟩⟩, hrs⟩, ⟨hlow.os, hlow.tape, hlow.output, hlow.size, fun k hk _ => hlow.block k hk, fun k hk => by rw [ev, if_pos hk], fun k hk => ?_, fun k hk => ?_, KC.quiet hlow⟩, hlow⟩
  · rw [hq2, hC]
  · exact row_weaken (own_setR (own_setR (own_step ho2 hb3) hq (by decide) _) hq1 (by decide) _)
  · exact row_weaken (row_setF (row_setF hr.own hq (by decide) _) hq1 (by decide) _)
  · exact (own_rdv (own_setR (own_setR (hr.each r hr') hq (by decide) (.slice A2 n2 c2)) hq1 (by decide) (.slice A3 n3 c3))).1
  · rw [hsz]; exact (hrr r hr' a ha).2.1
  · rw [ev, if_neg (by omega)]
    split
    · exact .inr (.inl rfl)
    split
    · exact .inr (.inr rfl)
    · exact .inl rfl
  · rw [hsz] at hk
    rw [ev, if_neg (by omega), if_neg, if_neg]
    · rintro ⟨r, hr', a, ha, hb⟩
      have := (hrr r hr' a ha).2.1
      omega
    · rintro (h | h | h)
      · omega
      · have := h2row _ h
        omega
      · have := h3row _ h
        omega
set_option maxHeartbeats 1600000 in
theorem copy_any (o : Nat → Nat) (i j p : Nat) (F : FM) (w : World) (hF : FileA w o i p F) (hfr : Fr o w) (hl : F.raws.length ≤ 1000000000) (hbl : ∀ r ∈ F.raws, r.2.length ≤ 1000000000) (hb : F.b.length ≤ 4200000) :
    Calls Tryd.prog 27 #[.pointer (some ⟨p, 0, none⟩)] w (CopyPost o j F w) := by
  have HF := Lib.hid hF
  have HFR := Lib.hid hfr
  have HBL := Lib.hid hbl
  obtain ⟨vb, vr, L, hF1⟩ := hF
  obtain ⟨Av, cv, hvb, _, hrd, _⟩ := own_split hF1.ob
  subst hvb
  obtain ⟨Ar, cr, hvr, _⟩ := row_split hF1.rw.own
  subst hvr
  obtain ⟨c0, c1, c2, c3, c4, c5⟩ := hF1.cells
  have HR := Lib.hid hrd
  have HB0 := Lib.hid hF1.blk
  clear hF1 hfr hrd hbl
  go_enter Tryd.func27, Tryd.ntmps27
  have hpl : p < w.heap.size := (Array.getElem?_eq_some_iff.1 HB0.out).1
  have d1 : ∀ ob, (w.alloc ob).cell? ⟨p, 1, none⟩ = some (.slice Av F.b.length cv) := fun ob => (World.cell?_of_block (w := w) (Below.heap_alloc _ _ _ hpl)).trans c1
  go_wp2_with (first
    | (go_at_call 38; refine (good_any o i p F w HF.out).mono ?_; rintro e w1 ⟨rfl, rfl⟩)
    | (go_at_call 36; refine (clone_any Av cv F.b _ (HR.out.below ((Below.refl w.heap.size w).alloc (Nat.le_refl _) _)) (by omega)).mono ?_; rintro e w2 ⟨v2, rfl, ho2, hb2⟩; obtain ⟨A2, c2, rfl, ho2', _, _⟩ := own_split ho2; have HO2 := Lib.hid ho2'; have HB2 := Lib.hid hb2; clear ho2 ho2' hb2)
    | (go_at_call 25; refine (raws_any o i p F w2 (HF.out.below (((Below.refl w.heap.size w).alloc (Nat.le_refl _) _).trans (HB2.out.mono (by simp)))) hl HBL.out).mono ?_; rintro e w3 ⟨v3, L3, rfl, hr3, hrs3, hb3⟩; obtain ⟨A3, c3, rfl, hrow3⟩ := row_split hr3.own; have hq3 : w3.heap[w.heap.size]? = some (.cells #[.bool true, .slice Av F.b.length cv, .int .i64 F.most, .bool F.off, .int .i64 F.left, .slice Ar L.length cr] 78 (0, 0)) := (hb3.block _ (Nat.lt_of_lt_of_le (by simp) HB2.out.size)).trans ((HB2.out.block _ (by simp)).trans (World.alloc_heap_new w _)); have f1 := blk_frozen hq3 1; have g1 := blk_cell hq3 1; have f5 := blk_frozen (blk_set hq3 1 (.slice A2 F.b.length c2)) 5; obtain ⟨g5v, g5⟩ := cell_in (blk_set hq3 1 (.slice A2 F.b.length c2)) (i := 5) (by simp); have HQ3 := Lib.hid hq3; have HRO := Lib.hid hr3; have HRS := Lib.hid hrs3; have HB3 := Lib.hid hb3; have HROW := Lib.hid hrow3; clear hq3 hr3 hrs3 hb3 hrow3))
  go_ret
  obtain ⟨o', h1, h2, h3⟩ := copy_end o j w _ w2 w3 F _ HFR.out ((Below.refl w.heap.size w).alloc (Nat.le_refl _) _) (by simp) A2 F.b.length c2 HO2.out HB2.out A3 L3.length c3 L3 HRO.out HRS.out HB3.out HQ3.out (by simp)
  exact ⟨w.heap.size, o', rfl, h1, h2, h3, Nat.le_refl _⟩
end Go.Proofs.YtadmpjikkpnjnaaDoor
