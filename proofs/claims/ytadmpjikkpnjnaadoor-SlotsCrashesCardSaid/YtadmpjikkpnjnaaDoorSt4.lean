/-
  store.pieces: what is written, a raw write at a time: an iterator over another one. No premise.
-/
import Derived.Test.YtadmpjikkpnjnaaDoorSt3
namespace Go.Proofs.YtadmpjikkpnjnaaDoor
open Go.RowKit Go.Shelf Go.Proofs.YtadmpjikkpnjnaaDoorW.PrintWords
attribute [local go_sem] Oper.semAt_some

def KpP (n0 : Nat) (X Y : World) : Prop := (∀ (i : Nat) (cs : Array Value) (t : TypeId), ctl t → X.heap[i]? = some (.cells cs t (0, 0)) → Y.heap[i]? = some (.cells cs t (0, 0))) ∧ KeepsFrom n0 X Y
theorem keeps_tr {B : Nat} {X Y Z : World} (h : KeepsFrom B X Y) (k : KeepsFrom B Y Z) : KeepsFrom B X Z :=
  ⟨Nat.le_trans h.size k.size, fun i o hB hi ho => k.same i o hB (h.same i o hB hi ho) ho⟩
theorem keeps_up {B B' : Nat} {X Y : World} (h : KeepsFrom B X Y) (hb : B ≤ B') : KeepsFrom B' X Y := ⟨h.size, fun i o hB hi ho => h.same i o (Nat.le_trans hb hB) hi ho⟩
theorem KpP.trans {n0 : Nat} {X Y Z : World} (h : KpP n0 X Y) (k : KpP n0 Y Z) : KpP n0 X Z := ⟨fun i cs t ht hi => k.1 i cs t ht (h.1 i cs t ht hi), keeps_tr h.2 k.2⟩
set_option maxHeartbeats 400000 in
theorem pieces_any (at_ : Int) (A : Option Addr) (n c : Nat) (w : World) :
    Calls Tryd.prog 50 #[.int .i64 at_, .slice A n c] w fun e w' => e = .returned (.func (.func 53) #[] #[.pointer (some ⟨w.heap.size + 1, 0, none⟩), .pointer (some ⟨w.heap.size, 0, none⟩)]) ∧ (w.alloc (.cells #[.int .i64 at_] 3)).alloc (.cells #[.slice A n c] 25) = w' := by
  go_enter Tryd.func50, Tryd.ntmps50
  go_wp2_with fail
  go_ret
  exact ⟨rfl, rfl⟩
set_option maxRecDepth 100000 in
set_option maxHeartbeats 2000000 in
theorem pieces_seq (bb ba : Nat) (A : Option Addr) (len cap at_ : Nat) (hc : len ≤ cap) (hl : len ≤ 10000000) (hat : at_ ≤ 10000000) (w : World) (_hne : bb ≠ ba)
    (hbb : w.heap[bb]? = some (.cells #[.slice A len cap] 25 (0, 0))) (hba : w.heap[ba]? = some (.cells #[.int .i64 (at_ : Int)] 3 (0, 0))) :
    SeqI Fence.wide 5 Tryd.prog 53 #[.pointer (some ⟨bb, 0, none⟩), .pointer (some ⟨ba, 0, none⟩)] (fun k => #[.int .i64 ((at_ + k * 16 : Nat) : Int), chv A len 16 k]) (fun i => i = bb ∨ i = ba) (fun i => i = ba) KpP (chN len 16) w := by
  intro l J Jx W hW hS hJ hJx hY h0
  have HJ := Lib.hid hJ
  have HJX := Lib.hid hJx
  have HY := Lib.hid hY
  have hbbW := (hS bb (.inl rfl)).trans hbb
  have hbaW := (hS ba (.inr rfl)).trans hba
  have hlb := blk_lt hbbW
  have hla := blk_lt hbaW
  have HBB := Lib.hid hbbW
  have HBA := Lib.hid hbaW
  have hcb := blk_cell hbbW 0
  simp only [List.getElem?_toArray, List.getElem?_cons_zero] at hcb
  have hcb1 : (W.alloc (.cells #[.func (.yield l) #[] #[]] 83)).cell? ⟨bb, 0, none⟩ = some (.slice A len cap) := (World.cell?_of_block (w := W) (Below.heap_alloc _ _ _ hlb)).trans hcb
  clear hS hJ hJx hY hbb hba hbbW hbaW hcb
  refine callsIn_of_wp_marks Tryd.func53 rfl trivial ?_ rfl
  simp only [Tryd.ntmps53, List.size_toArray, List.length_cons, List.length_nil, Nat.reduceAdd, Nat.reduceSub, Array.replicate_succ, Array.replicate_zero, List.push_toArray, List.append_toArray, List.nil_append, List.cons_append]
  gi_wp2_with (refine ⟨trivial, ?_⟩; gi_at_call 54; refine (callsIn_wide.2 (chunk_any A len cap 16 _ (by decide))).mono ?_; rintro e w1 ⟨rfl, rfl⟩)
  obtain ⟨by_, hby⟩ : ∃ by_, by_ = W.heap.size := ⟨_, rfl⟩
  obtain ⟨W1, hW1⟩ : ∃ W1, W1 = ((W.alloc (.cells #[.func (.yield l) #[] #[]] 83)).alloc (.cells #[.slice A len cap] 25)).alloc (.cells #[.int .i64 16] 3) := ⟨_, rfl⟩
  have hs1 : W1.heap.size = by_ + 3 := by rw [hW1, hby]; simp
  have hBY : W1.heap[by_]? = some (.cells #[.func (.yield l) #[] #[]] 83 (0, 0)) := by
    rw [hW1, hby]
    exact (Below.heap_alloc _ _ _ (by simp; omega)).trans ((Below.heap_alloc _ _ _ (by simp)).trans (World.alloc_heap_new W _))
  have hBS : W1.heap[by_ + 1]? = some (.cells #[.slice A len cap] 25 (0, 0)) := by
    have := World.alloc_heap_new (W.alloc (.cells #[.func (.yield l) #[] #[]] 83)) (.cells #[.slice A len cap] 25)
    rw [World.size_alloc] at this
    rw [hW1, hby]
    exact (Below.heap_alloc _ _ _ (by simp)).trans this
  have hBN : W1.heap[by_ + 2]? = some (.cells #[.int .i64 ((16 : Nat) : Int)] 3 (0, 0)) := by
    have := World.alloc_heap_new ((W.alloc (.cells #[.func (.yield l) #[] #[]] 83)).alloc (.cells #[.slice A len cap] 25)) (.cells #[.int .i64 16] 3)
    rw [World.size_alloc, World.size_alloc] at this
    rw [hW1, hby]
    exact this
  have hk1 : ∀ k, k < W.heap.size → W1.heap[k]? = W.heap[k]? := fun k hk => by
    rw [hW1]
    exact (Below.heap_alloc _ _ _ (by simp; omega)).trans ((Below.heap_alloc _ _ _ (by simp; omega)).trans (Below.heap_alloc _ _ _ hk))
  have hJ1 : J 0 W1 := by rw [hW1]; exact HJ.out.alloc (HJ.out.alloc (HJ.out.alloc h0 _) _) _
  rw [← hW1, ← hby]
  have HBY := Lib.hid hBY
  have HBS := Lib.hid hBS
  have HBN := Lib.hid hBN
  have HJ1 := Lib.hid hJ1
  have HB1 := Lib.hid ((hk1 bb hlb).trans HBB.out)
  have HA1 := Lib.hid ((hk1 ba hla).trans HBA.out)
  have hbyl : W.heap.size ≤ by_ := by omega
  clear hW1 hBY hBS hBN hJ1 hk1 h0 hcb1 hby
  refine rangeI rfl (by omega) (gf := 55) (lb := #[.pointer (some ⟨by_ + 1, 0, none⟩), .pointer (some ⟨by_ + 2, 0, none⟩)]) rfl trivial (enters_of Tryd.func55 (by kernel_rfl) rfl)
    (chunk_seq Fence.wide 4 trivial rfl (by omega) (by_ + 1) (by_ + 2) A len cap 16 hc (by omega) (by decide) (by decide) W1 HBS.out HBN.out)
    (by rintro i (rfl | rfl) <;> omega) (fun i h => h.elim) (fun h k => h.trans k)
    (fun B V L o o' hL _ _ _ _ i hi => World.putObj_heap_other (by rcases hi with rfl | rfl <;> omega)) (fun _ => rfl)
    (fun k V => J k V ∧ V.heap[by_]? = some (.cells #[.func (.yield l) #[] #[]] 83 (0, 0)) ∧ V.heap[by_ + 1]? = some (.cells #[.slice A len cap] 25 (0, 0)) ∧ V.heap[by_ + 2]? = some (.cells #[.int .i64 ((16 : Nat) : Int)] 3 (0, 0)) ∧ V.heap[ba]? = some (.cells #[.int .i64 ((at_ + min (k * 16) len : Nat) : Int)] 3 (0, 0)))
    (fun c k V => c = .ret ∧ Jx k V)
    ?inv ?invx ⟨HJ1.out, HBY.out, HBS.out, HBN.out, by simpa using HA1.out⟩
    (fun k => { tmps := #[.func (.yield l) #[] #[], .pointer (some ⟨bb, 0, none⟩), .pointer (some ⟨ba, 0, none⟩), .pointer (some ⟨by_, 0, none⟩), chv A len 16 k, .slice A len cap, .func (.func 55) #[] #[.pointer (some ⟨by_ + 1, 0, none⟩), .pointer (some ⟨by_ + 2, 0, none⟩)], chv A len 16 k, undef, undef, undef, undef, undef, undef, undef, undef, undef], defers := [] }) ?assign ?body ?done ?stop
  case inv =>
    rintro k X Y row ⟨h1, h2, h3, h4, h5⟩ hg ht
    have hr : ∀ r, row = some r → ∃ ob : Obj, X.heap[r]? = some ob ∧ ob.isCells = false := fun r e => by
      rcases ht r e with h | ⟨_, h⟩
      · exact h.elim
      · exact h
    have hc : ∀ {i : Nat} {cs : Array Value} {t : TypeId}, X.heap[i]? = some (.cells cs t (0, 0)) → Y.heap[i]? = some (.cells cs t (0, 0)) := fun hi => (grownBy_keeps_cells hg hr hi rfl).trans hi
    refine ⟨HJ.out k X Y row h1 hg (fun r e => ?_), hc h2, hc h3, hc h4, hc h5⟩
    rcases ht r e with h | ⟨h, ho⟩
    · exact h.elim
    · exact .inr ⟨by omega, ho⟩
  case invx =>
    rintro c k X Y row ⟨hcr, h1⟩ hg ht
    refine ⟨hcr, HJX.out k X Y row h1 hg (fun r e => ?_)⟩
    rcases ht r e with h | ⟨h, ho⟩
    · exact h.elim
    · exact .inr ⟨by omega, ho⟩
  case assign =>
    intro L k V K hK
    gi_wp2
    exact hK
  case body =>
    rintro L k V hk ⟨hj, hby2, hbs, hbn, hba⟩
    have hk16 := (chN_lt (len := len) (sz := 16) (k := k) (by decide)).1 hk
    rw [Nat.min_eq_left (by omega)] at hba
    obtain ⟨iv, hiv⟩ : ∃ iv, iv = at_ + k * 16 := ⟨_, rfl⟩
    obtain ⟨fn, tmps, assign, body, hy, hR⟩ := HY.out k V hk hj
    rw [← hiv] at hba hy
    have hcy := blk_cell hby2 0
    have hca := blk_cell hba 0
    simp only [List.getElem?_toArray, List.getElem?_cons_zero] at hcy hca
    obtain ⟨sz, hsz⟩ : ∃ sz, sz = min 16 (len - k * 16) := ⟨_, rfl⟩
    obtain ⟨Ak, hAk⟩ : ∃ Ak, chv A len 16 k = .slice Ak sz sz := ⟨_, by rw [hsz]; rfl⟩
    rw [hAk] at hy ⊢
    have HBY2 := Lib.hid hby2
    have HBS2 := Lib.hid hbs
    have HBN2 := Lib.hid hbn
    have HBA2 := Lib.hid hba
    have HSZ := Lib.hid hsz
    have HIV := Lib.hid hiv
    have hR' := RoundIn.mono (F := Fence.wide.inRound L) (n := 2) ⟨hR.1, fun c cs _ => hR.2 c cs (room_wide _)⟩ (fun _ _ h => h)
    have HR := Lib.hid hR'
    clear hby2 hbs hbn hba hsz hiv hR hR' hj
    gi_wp2
    refine HR.out.mono ?_
    rintro e1 W3 (⟨rfl, hJ3, hk3⟩ | ⟨rfl, hJ3, hk3⟩)
    · have hy3 := hk3.1 _ _ _ (.inr (.inr rfl)) HBY2.out
      have hs3 := hk3.1 _ _ _ (.inr (.inl rfl)) HBS2.out
      have hn3 := hk3.1 _ _ _ (.inl rfl) HBN2.out
      have ha3 := hk3.1 _ _ _ (.inl rfl) HBA2.out
      have hca3 := blk_cell ha3 0
      have hcf3 := blk_frozen ha3 0
      simp only [List.getElem?_toArray, List.getElem?_cons_zero] at hca3
      have hset := blk_set ha3 0 (.int .i64 ((iv : Int) + (sz : Int)))
      have HY3 := Lib.hid hy3
      have HS3 := Lib.hid hs3
      have HN3 := Lib.hid hn3
      have HSET := Lib.hid hset
      have HK3 := Lib.hid hk3
      have hJ4 := HJ.out (k + 1) W3 (W3.setCell ⟨ba, 0, none⟩ (.int .i64 ((iv : Int) + (sz : Int)))) (some ba) hJ3 (grownBy_setCell' W3 ba _) (fun r e => by cases e; exact .inl rfl)
      have HJ4 := Lib.hid hJ4
      have hadd : (iv : Int) + (sz : Int) ≤ 9223372036854775807 := by have := HSZ.out; have := HIV.out; omega
      have hn2 : by_ + 2 ≠ ba := by omega
      have hn1 : by_ + 1 ≠ ba := by omega
      have hn0 : by_ ≠ ba := by omega
      clear hy3 hs3 hn3 ha3 hset hk3 hJ4 hJ3 hy
      gi_wp2
      refine ⟨keeps_tr (keeps_up HK3.out.2 (by omega)) ((KeepsOthers.setCell _ _ _).from _), fun i hi => ?_, HJ4.out, ?_, ?_, ?_, ?_⟩
      · rcases hi with rfl | rfl
        · exact (Below.heap_setCell _ _ _ _ hn1).trans (HS3.out.trans HBS2.out.symm)
        · exact (Below.heap_setCell _ _ _ _ hn2).trans (HN3.out.trans HBN2.out.symm)
      · exact (Below.heap_setCell _ _ _ _ hn0).trans HY3.out
      · exact (Below.heap_setCell _ _ _ _ hn1).trans HS3.out
      · exact (Below.heap_setCell _ _ _ _ hn2).trans HN3.out
      · refine HSET.out.trans ?_
        have e : (iv : Int) + (sz : Int) = ((at_ + min ((k + 1) * 16) len : Nat) : Int) := by
          have := HSZ.out
          have := HIV.out
          omega
        rw [e]
        rfl
    · have HK3 := Lib.hid hk3
      have HJ3 := Lib.hid hJ3
      have hs3 := hk3.1 _ _ _ (.inr (.inl rfl)) HBS2.out
      have hn3 := hk3.1 _ _ _ (.inl rfl) HBN2.out
      have HS3 := Lib.hid hs3
      have HN3 := Lib.hid hn3
      clear hk3 hJ3 hy hs3 hn3
      gi_wp2
      refine ⟨keeps_up HK3.out.2 (by omega), fun i hi => ?_, rfl, HJ3.out⟩
      rcases hi with rfl | rfl
      · exact HS3.out.trans HBS2.out.symm
      · exact HN3.out.trans HBN2.out.symm
  case done =>
    rintro D V hD ⟨hj, _⟩ hK
    have HK := Lib.hid hK
    have HJD := Lib.hid (HJ.out.putObj hj (.deferred none) (by omega) hK rfl)
    clear hj hK
    gi_wp2
    refine ⟨by simp, .inl ⟨_, _, rfl, run_takeDeferred HK.out, ?_⟩⟩
    exact ⟨_, results_none rfl _ _ _, ⟨_, rfl⟩, .inl HJD.out⟩
  case stop =>
    rintro D cd k V hD hk ⟨rfl, h⟩ hK
    have HK := Lib.hid hK
    have HJD := Lib.hid (HJX.out.putObj h (.deferred none) (by omega) hK rfl)
    clear h hK
    gi_wp2
    refine ⟨by simp, .inl ⟨_, _, rfl, run_takeDeferred HK.out, ?_⟩⟩
    exact ⟨_, results_none rfl _ _ _, ⟨_, rfl⟩, .inr ⟨k, hk, HJD.out⟩⟩
end Go.Proofs.YtadmpjikkpnjnaaDoor
