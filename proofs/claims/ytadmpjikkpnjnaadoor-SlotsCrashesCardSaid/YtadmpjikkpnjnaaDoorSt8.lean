/-
  store.New, store.Of; store.File: Raws, Copy. No premise.
-/
import Derived.Test.YtadmpjikkpnjnaaDoorSt7
namespace Go.Proofs.YtadmpjikkpnjnaaDoor
open Go.RowKit Go.Shelf Go.Proofs.YtadmpjikkpnjnaaDoorW.PrintWords

def mkF (b : List Int) (most : Int) : FM := ⟨b, most, false, -1, []⟩
def ofB (b : List Int) (most : Int) : Prop := most < 0 ∨ 4194304 < most ∨ most < b.length
theorem mkF_ok {b : List Int} (hb : Bts b) {most : Int} (h : ¬ ofB b most) : FOk (mkF b most) := by
  unfold ofB at h
  exact ⟨by show (b.length : Int) ≤ most; omega, by show most ≤ 4194304; omega, by show (-1 : Int) ≤ -1; decide, by show (-1 : Int) ≤ 9223372036854775807; decide, hb, fun r hr => by cases hr⟩
def MadePost (o : Nat → Nat) (i : Nat) (b : List Int) (most : Int) (w : World) (e : Ending) (w' : World) : Prop :=
  ∃ p o', e = .returned (.pointer (some ⟨p, 0, none⟩)) ∧ FileA w' o' i p (mkF b most) ∧ Upd o o' i w w' ∧ Below w.heap.size w w' ∧ w.heap.size ≤ p
theorem raws_nil (w : World) (o : Nat → Nat) (i e : Nat) : RawsAt w o i e (.slice none 0 0) [] :=
  ⟨World.ownsRow_nil _ _ _ _, (fun g hg => by cases hg), (fun r hr => by cases hr)⟩
set_option maxHeartbeats 1600000 in
theorem of_bad (B : Option Addr) (c : Nat) (b : List Int) (most : Int) (w : World) (h : ofB b most) :
    Calls Tryd.prog 15 #[.slice B b.length c, .int .i64 most] w fun e w' => e = .returned (.pointer none) ∧ w = w' := by
  unfold ofB at h
  by_cases h1 : most < 0
  · clear h
    go_enter Tryd.func15, Tryd.ntmps15
    go_wp2_with fail
    go_ret
    exact ⟨rfl, rfl⟩
  by_cases h2 : 4194304 < most
  · clear h
    go_enter Tryd.func15, Tryd.ntmps15
    go_wp2_with fail
    go_ret
    exact ⟨rfl, rfl⟩
  · have h3 : most < b.length := by omega
    clear h
    go_enter Tryd.func15, Tryd.ntmps15
    go_wp2_with fail
    go_ret
    exact ⟨rfl, rfl⟩
set_option maxHeartbeats 1600000 in
theorem of_any (o : Nat → Nat) (i : Nat) (B : Option Addr) (c : Nat) (b : List Int) (most : Int) (w : World) (hfr : Fr o w) (hr : Rd w B b) (h : ¬ ofB b most) :
    Calls Tryd.prog 15 #[.slice B b.length c, .int .i64 most] w (MadePost o i b most w) := by
  have HR := Lib.hid hr
  have HFR := Lib.hid hfr
  unfold ofB at h
  have h1 : ¬ most < 0 := by omega
  have h2 : ¬ 4194304 < most := by omega
  have h3 : ¬ most < b.length := by omega
  clear hr hfr h
  go_enter Tryd.func15, Tryd.ntmps15
  go_wp2_with (go_at_call 36; refine (clone_any B c b w HR.out (by omega)).mono ?_; rintro e w1 ⟨v, rfl, ho, hb⟩; obtain ⟨Av, cv, rfl, ho2, _, _⟩ := own_split ho; have HO := Lib.hid ho2; have HB := Lib.hid hb; clear ho ho2 hb)
  go_ret
  obtain ⟨o1, hu1, hn1, hk1⟩ := (Upd.refl (i := i) HFR.out).noteV HB.out HO.out i (.inl rfl)
  have hba : Below w1.heap.size w1 (w1.alloc (.cells #[.bool true, .slice Av b.length cv, .int .i64 most, .bool false, .int .i64 (-1), .slice none 0 0] 78)) := (Below.refl _ _).alloc (Nat.le_refl _) _
  have hu2 := hu1.note hba w1.heap.size i (.inl rfl) (Nat.le_refl _) (by simp)
  refine ⟨w1.heap.size, tg o1 w1.heap.size i, rfl, ⟨_, .slice none 0 0, [], World.alloc_heap_new w1 _, tg_same _ _ _, own_weaken (own_step HO.out hba) (Nat.zero_le _), fun g hg => ?_, raws_nil _ _ _ _, rfl⟩, hu2, HB.out.trans (hba.mono HB.out.size), HB.out.size⟩
  obtain ⟨t1, _, t3⟩ := hn1 g hg
  rw [tg_other _ (by omega)]
  exact t1
set_option maxHeartbeats 800000 in
theorem new_bad (most : Int) (w : World) (h : ofB [] most) : Calls Tryd.prog 26 #[.int .i64 most] w fun e w' => e = .returned (.pointer none) ∧ w = w' := by
  have HC := Lib.hid (of_bad none 0 [] most w h)
  go_enter Tryd.func26, Tryd.ntmps26
  go_wp2_with (go_at_call 15; refine HC.out.mono ?_; rintro e w1 ⟨rfl, rfl⟩)
  go_ret
  exact ⟨rfl, rfl⟩
theorem rd_none (w : World) : Rd w none [] := ⟨rfl, by simp, fun h => absurd h (by simp)⟩
set_option maxHeartbeats 800000 in
theorem new_any (o : Nat → Nat) (i : Nat) (most : Int) (w : World) (hfr : Fr o w) (h : ¬ ofB [] most) : Calls Tryd.prog 26 #[.int .i64 most] w (MadePost o i [] most w) := by
  have HC := Lib.hid (of_any o i none 0 [] most w hfr (rd_none w) h)
  clear hfr h
  go_enter Tryd.func26, Tryd.ntmps26
  go_wp2_with (go_at_call 15; refine HC.out.mono ?_; rintro e w1 ⟨p, o1, rfl, h1, h2, h3, h4⟩; have H1 := Lib.hid h1; have H2 := Lib.hid h2; have H3 := Lib.hid h3; clear h1 h2 h3)
  go_ret
  exact ⟨p, o1, rfl, H1.out, H2.out, H3.out, h4⟩
/-- A row of raw writes of the asker's own. -/
structure RawsO (w : World) (B : Nat) (v : Value) (L : List Rw) : Prop where
  own : w.ownsRow B 88 2 v L.length (rwv L)
  each : ∀ r ∈ L, Own w B (.slice r.A r.b.length r.c) r.b
theorem rwv_cells {w : World} {ad : Addr} {L : List Rw} (h : ∀ i (hi : i < L.length), w.cell? (ad.add (i * 2)) = some (.int .i64 L[i].pl) ∧ w.cell? (ad.add (i * 2 + 1)) = some (.slice L[i].A L[i].b.length L[i].c)) : ∀ j u, (rwv L)[j]? = some u → w.cell? (ad.add j) = some u := by
  intro j u hu
  have hj : j < L.length * 2 := by
    have := (List.getElem?_eq_some_iff.1 hu).1
    rwa [rwv_length] at this
  obtain ⟨c0, c1⟩ := h (j / 2) (by omega)
  obtain ⟨f0, f1⟩ := rwv_at L (j / 2) (by omega)
  rcases Nat.mod_two_eq_zero_or_one j with hm | hm
  · have e : j / 2 * 2 = j := by omega
    rw [e] at c0 f0
    rw [c0, ← hu, f0]
  · have e : j / 2 * 2 + 1 = j := by omega
    rw [e] at c1 f1
    rw [c1, ← hu, f1]
theorem row_cells {w : World} {base e g n cap : Nat} {L : List Rw} (h : w.ownsRow base e 2 (.slice (some ⟨g, 0, none⟩) n cap) L.length (rwv L)) (i : Nat) (hi : i < L.length) : w.cell? ⟨g, i * 2, none⟩ = some (.int .i64 L[i].pl) ∧ w.cell? ⟨g, i * 2 + 1, none⟩ = some (.slice L[i].A L[i].b.length L[i].c) := by
  obtain ⟨_, h2⟩ := h
  rcases h2 with ⟨h2, _⟩ | ⟨g', cap', cur, h2, hb, hg, hn, hm, hs, ht⟩
  · cases h2
  · injection h2 with e1 e2 e3
    injection e1 with e1
    injection e1 with e1
    subst e1
    obtain ⟨f0, f1⟩ := rwv_at L i hi
    have hc : ∀ j u, j < L.length * 2 → (rwv L)[j]? = some u → w.cell? ⟨g, j, none⟩ = some u := fun j u hj hu => by
      rw [← ht, List.getElem?_take_of_lt hj, Array.getElem?_toList] at hu
      rw [blk_cell hg]
      exact hu
    exact ⟨hc _ _ (by omega) f0, hc _ _ (by omega) f1⟩
set_option maxHeartbeats 1600000 in
theorem cloneR_any (v : Value) (L : List Rw) (w : World) (ho : w.ownsRow 0 88 2 v L.length (rwv L)) (hl : L.length ≤ 1000000000) :
    Calls Tryd.prog 42 #[v] w fun e w' => ∃ v', e = .returned v' ∧ w'.ownsRow w.heap.size 88 2 v' L.length (rwv L) ∧ Below w.heap.size w w' := by
  rcases ho.2 with ⟨rfl, hn⟩ | ⟨g, cap, cur, rfl, _, hg, hnc, _, hcs, ht⟩
  · have hL : L = [] := List.length_eq_zero_iff.1 hn
    subst hL
    have hn := fun W => Lib.run_eql_slice_nil (P := Tryd.prog) W 60 88 none 0 0 0 0 Tryd.underlying60
    go_enter Tryd.func42, Tryd.ntmps42
    go_wp2_with fail
    go_ret
    exact ⟨_, rfl, World.ownsRow_nil _ _ _ _, Below.refl _ _⟩
  · have hn := fun W => Lib.run_eql_slice_nil (P := Tryd.prog) W 60 88 (some ⟨g, 0, none⟩) L.length cap 0 0 Tryd.underlying60
    have hba : Below w.heap.size w (w.alloc (.cells #[] 88)) := (Below.refl _ _).alloc (Nat.le_refl _) _
    have hce : ∀ j u, (rwv L)[j]? = some u → (w.alloc (.cells #[] 88)).cell? ((⟨g, 0, none⟩ : Addr).add j) = some u := fun j u hu => by
      have hj : j < L.length * 2 := by
        have := (List.getElem?_eq_some_iff.1 hu).1
        rwa [rwv_length] at this
      have hgl := (Array.getElem?_eq_some_iff.1 hg).1
      have e : (⟨g, 0, none⟩ : Addr).add j = ⟨g, j, none⟩ := by unfold Addr.add; split <;> simp_all
      rw [e, hba.cell hgl, blk_cell hg]
      rw [← ht, List.getElem?_take_of_lt hj, Array.getElem?_toList] at hu
      exact hu
    obtain ⟨i0, hi, hz0, hz1, hz2⟩ := info_parts infoR
    have HOE := Lib.hid (show (w.alloc (.cells #[] 88)).ownsRow w.heap.size 88 2 (.slice (some ⟨w.heap.size, 0, none⟩) 0 0) 0 [] from World.ownsRow_made w #[] 0 (Nat.le_refl _) (by simp [maxLen]) (by simp))
    have HCE := Lib.hid hce
    have HBA := Lib.hid hba
    clear ho hce hba hg ht hcs
    go_enter Tryd.func42, Tryd.ntmps42
    go_wp2_with (at_builtin; refine wpList_append_own_wide _ rfl _ _ 60 rfl w.heap.size 88 i0 (.agg #[.int .i64 0, .slice none 0 0]) 2 32 Tryd.underlying60 hi hz0 hz1 hz2 rfl (by decide) (.slice (some ⟨w.heap.size, 0, none⟩) 0 0) 0 [] rfl HOE.out ⟨g, 0, none⟩ L.length cap (rwv L) rfl (rwv_length L) HCE.out (fun u hu => rwv_one hu) (by simp only [maxLen]; omega) (by omega) (by simp) ?_; intro v1 w1 h1 h2 _)
    have hB : Below w.heap.size w w1 := HBA.out.grown h2 (by simp) (by simp [Value.ownBlock])
    rw [Nat.zero_add, List.nil_append] at h1
    have H1 := Lib.hid h1
    have HB := Lib.hid hB
    clear h1 h2 hB
    go_wp2_with fail
    go_ret
    exact ⟨_, rfl, H1.out, HB.out⟩
theorem rw_eta (r : Rw) (A : Option Addr) (c : Nat) : ({ r with A := A, c := c } : Rw).b = r.b := rfl
theorem rws_set {L : List Rw} {k : Nat} (hk : k < L.length) (r : Rw) (h1 : r.pl = L[k].pl) (h2 : r.b = L[k].b) : rws (L.set k r) = rws L := by
  unfold rws
  rw [List.map_set, h1, h2]
  have e : (L.map fun r => (r.pl, r.b))[k]'(by simpa using hk) = (L[k].pl, L[k].b) := by simp
  rw [← e]
  exact List.set_getElem_self _
theorem rwv_set {L : List Rw} {k : Nat} (hk : k < L.length) (r : Rw) (h1 : r.pl = L[k].pl) : (rwv L).set (k * 2 + 1) (.slice r.A r.b.length r.c) = rwv (L.set k r) := by
  induction L generalizing k with
  | nil => simp at hk
  | cons f L ih =>
    have e : rwv (f :: L) = .int .i64 f.pl :: .slice f.A f.b.length f.c :: rwv L := rfl
    cases k with
    | zero =>
      have h1' : r.pl = f.pl := h1
      rw [e]
      show _ = Value.int .i64 r.pl :: Value.slice r.A r.b.length r.c :: rwv L
      rw [h1']
      rfl
    | succ k =>
      have := ih (k := k) (by simpa using hk) h1
      rw [e, show (k + 1) * 2 + 1 = k * 2 + 1 + 1 + 1 from by omega, List.set_cons_succ, List.set_cons_succ, this]
      rfl
/-- One element's bytes are laid anew. -/
theorem row_set {w : World} {base e g cap : Nat} {L : List Rw} {k : Nat} (hk : k < L.length) (h : w.ownsRow base e 2 (.slice (some ⟨g, 0, none⟩) L.length cap) L.length (rwv L)) (r : Rw) (h1 : r.pl = L[k].pl) :
    (w.setCell ⟨g, k * 2 + 1, none⟩ (.slice r.A r.b.length r.c)).ownsRow base e 2 (.slice (some ⟨g, 0, none⟩) L.length cap) (L.set k r).length (rwv (L.set k r)) := by
  obtain ⟨hl, h2⟩ := h
  rcases h2 with ⟨h2, _⟩ | ⟨g', cap', cur, h2, hb, hg, hn, hm, hs, ht⟩
  · cases h2
  · injection h2 with e1 e2 e3
    injection e1 with e1
    injection e1 with e1
    subst e1 e3
    rw [List.length_set]
    refine ⟨rwv_length _ |>.trans (by rw [List.length_set]), .inr ⟨g, cap, cur.setIfInBounds (k * 2 + 1) (.slice r.A r.b.length r.c), rfl, hb, blk_set hg _ _, hn, hm, by rw [Array.size_setIfInBounds]; exact hs, ?_⟩⟩
    rw [Array.toList_setIfInBounds, List.take_set, ht, rwv_set hk r h1]
def RawsPost (F : FM) (w : World) (e : Ending) (w' : World) : Prop := ∃ v L, e = .returned v ∧ RawsO w' w.heap.size v L ∧ rws L = F.raws ∧ Below w.heap.size w w'
theorem row_cases {w : World} {base e n : Nat} {v : Value} {xs : List Value} (h : w.ownsRow base e 2 v n xs) : (v = .slice none 0 0 ∧ n = 0) ∨ ∃ g cap, v = .slice (some ⟨g, 0, none⟩) n cap ∧ base ≤ g ∧ g < w.heap.size := by
  rcases h.2 with ⟨h1, h2⟩ | ⟨g, cap, cur, h1, hb, hg, _⟩
  · exact .inl ⟨h1, h2⟩
  · exact .inr ⟨g, cap, h1, hb, (Array.getElem?_eq_some_iff.1 hg).1⟩
theorem row_split {w : World} {base e n : Nat} {v : Value} {xs : List Value} (h : w.ownsRow base e 2 v n xs) : ∃ A c, v = .slice A n c ∧ w.ownsRow base e 2 (.slice A n c) n xs := by
  rcases row_cases h with ⟨h1, h2⟩ | ⟨g, cap, h1, _⟩
  · subst h2
    exact ⟨none, 0, h1, h1 ▸ h⟩
  · exact ⟨_, _, h1, h1 ▸ h⟩
theorem own_setR {w : World} {base g j : Nat} {v : Value} {l : List Int} {cs : Array Value} {t : TypeId} (h : Own w base v l) (hg : w.heap[g]? = some (.cells cs t (0, 0))) (ht : t ≠ 5) (u : Value) : Own (w.setCell ⟨g, j, none⟩ u) base v l :=
  ownsRow_keep h fun g' hg' _ => Below.heap_setCell _ _ _ _ (fun e => by
    obtain ⟨cs', hc⟩ := ownsRow_is h hg'
    rw [show g' = g from e, hg] at hc
    injection hc with hc
    injection hc with _ e2
    exact ht e2)
set_option maxHeartbeats 1600000 in
theorem raws_any (o : Nat → Nat) (i p : Nat) (F : FM) (w : World) (hF : FileA w o i p F) (hl : F.raws.length ≤ 1000000000) (hbl : ∀ r ∈ F.raws, r.2.length ≤ 1000000000) :
    Calls Tryd.prog 25 #[.pointer (some ⟨p, 0, none⟩)] w (RawsPost F w) := by
  have HF := Lib.hid hF
  obtain ⟨vb, vr, L, hF1⟩ := hF
  obtain ⟨c0, c1, c2, c3, c4, c5⟩ := hF1.cells
  have HF1 := Lib.hid hF1
  have hLl : L.length = F.raws.length := by have := rws_length L; rw [hF1.raws] at this; omega
  have HCL := Lib.hid (cloneR_any vr L w hF1.rw.own (by omega))
  have hl9 : L.length ≤ 1000000000 := by omega
  have HLB := Lib.hid (show ∀ r ∈ L, r.b.length ≤ 1000000000 from fun r hr => hbl (r.pl, r.b) (by rw [← hF1.raws]; exact List.mem_map_of_mem hr))
  clear hF1 c1 c2 c3 c4 hbl hLl
  go_enter Tryd.func25, Tryd.ntmps25
  go_wp2_with (first | (go_at_call 38; refine (good_any o i p F w HF.out).mono ?_; rintro e w1 ⟨rfl, rfl⟩) | (go_at_call 42; refine HCL.out.mono ?_; rintro e w2 ⟨v, rfl, ho, hb⟩; obtain ⟨Av, cv, rfl, ho2⟩ := row_split ho; have HO := Lib.hid ho2; have HB := Lib.hid hb; clear ho ho2 hb))
  go_loopw [15] (fun t wr => ∃ k : Nat, k ≤ L.length ∧ t = .int .i64 k ∧ ∃ Lk : List Rw, Lk.length = L.length ∧ Hid (rws Lk = rws L) ∧ Hid (wr.ownsRow w.heap.size 88 2 (.slice Av L.length cv) L.length (rwv Lk)) ∧ Hid (∀ j (hj : j < Lk.length), j < k → Own wr w.heap.size (.slice Lk[j].A Lk[j].b.length Lk[j].c) Lk[j].b) ∧ Hid (∀ j (hj : j < Lk.length), k ≤ j → Lk[j]? = L[j]?) ∧ Hid (Below w.heap.size w wr)) (fun t _ => L.length - (intOf t).toNat)
  case atStart => exact ⟨0, Nat.zero_le _, rfl, L, rfl, rfl, HO.out, fun j _ h => absurd h (Nat.not_lt_zero _), fun j _ _ => rfl, HB.out⟩
  case round =>
    obtain ⟨k, hk, rfl, Lk, hlk, HS, HOk, HE, HN, HBk⟩ := hrel
    by_cases hlt : k < L.length
    · rcases row_cases HOk.out with ⟨_, h2⟩ | ⟨g, cap, hv, hgb, hgl⟩
      · omega
      injection hv with e1 e2 e3
      subst e1 e3
      have hlt2 : k < Lk.length := by omega
      obtain ⟨q0, q1⟩ := row_cells (L := Lk) (by rw [hlk]; exact HOk.out) k hlt2
      have hrk : Lk[k] ∈ L := by
        have := HN.out k hlt2 (Nat.le_refl _)
        rw [List.getElem?_eq_getElem hlt2, List.getElem?_eq_getElem hlt] at this
        injection this with this
        rw [this]
        exact List.getElem_mem hlt
      obtain ⟨rk, hrk'⟩ : ∃ rk, rk = Lk[k] := ⟨_, rfl⟩
      rw [← hrk'] at q0 q1 hrk
      have HRK := Lib.hid hrk'
      have hrd := (HF1.out.rw.rd rk hrk).1.below ((HBk.out))
      have HRD := Lib.hid hrd
      have hbl2 := HLB.out rk hrk
      clear hrk hrk' hrd q0
      go_wp2_with fail
      refine (clone_any rk.A rk.c rk.b wr HRD.out (by omega)).mono ?_
      rintro e w3 ⟨v3, rfl, ho3, hb3⟩
      obtain ⟨A3, c3, rfl, ho4, _, _⟩ := own_split ho3
      have hrow3 : w3.ownsRow w.heap.size 88 2 (.slice (some ⟨g, 0, none⟩) Lk.length cv) Lk.length (rwv Lk) := by rw [hlk]; exact ownsRow_keep HOk.out fun g' _ hl' => hb3.block g' hl'
      obtain ⟨_, q3⟩ := row_cells hrow3 k hlt2
      obtain ⟨cs3, hg3⟩ := ownsRow_is hrow3 (g := g) rfl
      have q4 : w3.frozen? ⟨g, k * 2 + 1, none⟩ = false := blk_frozen hg3 _
      have HG3 := Lib.hid hg3
      have HO4 := Lib.hid ho4
      have HB3 := Lib.hid hb3
      have HROW3 := Lib.hid hrow3
      have hsz3 := HBk.out.size
      clear ho3 ho4 hb3 hrow3 hg3
      go_wp2_with fail
      go_roundw
      case rel =>
        refine ⟨k + 1, by omega, by go_num, Lk.set k ⟨rk.pl, A3, c3, rk.b⟩, by rw [List.length_set]; exact hlk, ?_, ?_, ?_, ?_, ?_⟩
        · exact (rws_set hlt2 _ (by rw [HRK.out]) (by rw [HRK.out])).trans HS.out
        · have := row_set hlt2 HROW3.out ⟨rk.pl, A3, c3, rk.b⟩ (by rw [HRK.out])
          rw [List.length_set, hlk] at this
          exact this
        · intro j hj hjk
          rw [List.length_set] at hj
          by_cases e : j = k
          · subst e
            simp only [List.getElem_set_self]
            exact own_setR (own_weaken HO4.out hsz3) HG3.out (by decide) _
          · simp only [List.getElem_set_ne (fun h => e h.symm)]
            exact own_setR (own_step (HE.out j hj (by omega)) HB3.out) HG3.out (by decide) _
        · intro j hj hjk
          rw [List.length_set] at hj
          rw [List.getElem?_set_ne (by omega)]
          exact HN.out j hj (by omega)
        · exact (HBk.out.trans (HB3.out.mono hsz3)).setCell (p := ⟨g, k * 2 + 1, none⟩) hgb _
      case measure => simp [intOf]; omega
    · have hkk : k = L.length := by omega
      have HKK := Lib.hid hkk
      clear hkk
      go_wp2_with fail
      go_ret
      refine ⟨_, Lk, rfl, ⟨by rw [hlk]; exact HOk.out, fun r hr => ?_⟩, HS.out.trans HF1.out.raws, HBk.out⟩
      obtain ⟨j, hj, rfl⟩ := List.getElem_of_mem hr
      exact HE.out j hj (by have := HKK.out; omega)
end Go.Proofs.YtadmpjikkpnjnaaDoor
