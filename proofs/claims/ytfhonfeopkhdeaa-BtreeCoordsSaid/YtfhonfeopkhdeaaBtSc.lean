/-
  Span of a tree of coordinates: those from one up to another one, each lying anew. No premise.
-/
import Derived.Test.YtfhonfeopkhdeaaBtKc
namespace Go.Proofs.Ytfhonfeopkhdeaa.BC
open Go.RowKit Go.Proofs.YtfhonfeopkhdeaaW.PrintWords

/-- Are coordinates no part of the span? -/
def outC (low high k : List Int) : Bool := decide (cmpL k low < 0) || decide (0 ≤ cmpL k high)
/-- What the closure of a span has in hand. -/
structure SpB (w : World) (p m sz q b0 b1 b2 : Nat) (low high : Ky) : Prop where
  at_ : ∃ o, TrAt w o p m sz q
  t0 : w.heap[b0]? = some (.cells #[nv p] 66 (0, 0))
  t1 : w.heap[b1]? = some (.cells #[kv low] 22 (0, 0))
  t2 : w.heap[b2]? = some (.cells #[kv high] 22 (0, 0))
  lo : KRd w low
  hi : KRd w high
theorem SpB.below {w W : World} {p m sz q b0 b1 b2 : Nat} {low high : Ky} (h : SpB w p m sz q b0 b1 b2 low high) (hb : Below w.heap.size w W) : SpB W p m sz q b0 b1 b2 low high := by
  obtain ⟨o, ht⟩ := h.at_
  exact ⟨⟨o, (hb.block p (blk_lt ht.blk)).trans ht.blk, ht.tg⟩, (hb.block b0 (blk_lt h.t0)).trans h.t0, (hb.block b1 (blk_lt h.t1)).trans h.t1, (hb.block b2 (blk_lt h.t2)).trans h.t2, h.lo.below hb (Nat.le_refl _), h.hi.below hb (Nat.le_refl _)⟩
set_option maxRecDepth 100000 in
set_option maxHeartbeats 1000000 in
theorem span1_any (p m sz q b0 b1 b2 : Nat) (low high k : Ky) (w : World) (h : SpB w p m sz q b0 b1 b2 low high) (hk : KRd w k) :
    Calls Try.prog 72 #[kv k, .pointer (some ⟨b0, 0, none⟩), .pointer (some ⟨b1, 0, none⟩), .pointer (some ⟨b2, 0, none⟩)] w fun e w' => e = .returned (.bool (outC low.l high.l k.l)) ∧ ∃ n, w' = w.drewN n := by
  obtain ⟨o, ht⟩ := h.at_
  have c0 := ht.cells.2.2.1
  have c1 := blk_cell h.t0 0
  have c2 := blk_cell h.t1 0
  have c3 := blk_cell h.t2 0
  simp only [List.getElem?_toArray, List.getElem?_cons_zero] at c1 c2 c3
  unfold outC
  have HC1 := Lib.hid (fun n => kcmp_any k low (w.drewN n) (hk.drewN n) (h.lo.drewN n))
  have HC2 := Lib.hid (fun n => kcmp_any k high (w.drewN n) (hk.drewN n) (h.hi.drewN n))
  have e1 : kk k low = cmpL k.l low.l := rfl
  have e2 : kk k high = cmpL k.l high.l := rfl
  rw [← e1, ← e2]
  generalize kk k low = d1 at HC1 ⊢
  generalize kk k high = d2 at HC2 ⊢
  clear h ht hk e1 e2
  unfold nv at c1
  unfold kv at *
  by_cases h1 : d1 < 0
  · have e1 : decide (d1 < 0) = true := decide_eq_true h1
    rw [e1]
    go_enter Try.func72, Try.ntmps72
    go_wp2_with fail
    go_big_quiet ((go_at_call 13; refine (HC1.out _).mono ?_; rintro _ _ ⟨h1, h2⟩; exact ⟨h1, _, h2⟩))
    go_wp2_with fail
    go_ret
    exact ⟨rfl, _, rfl⟩
  · have e1 : decide (d1 < 0) = false := decide_eq_false h1
    rw [e1]
    go_enter Try.func72, Try.ntmps72
    go_wp2_with fail
    go_big_quiet ((go_at_call 13; first | (refine (HC1.out _).mono ?_; rintro _ _ ⟨h1, h2⟩; exact ⟨h1, _, h2⟩) | (refine (HC2.out _).mono ?_; rintro _ _ ⟨h1, h2⟩; exact ⟨h1, _, h2⟩)))
    go_wp2_with fail
    go_ret
    exact ⟨by simp, _, rfl⟩
abbrev cloS (b0 b1 b2 : Nat) : Value := .func (.func 72) #[] #[.pointer (some ⟨b0, 0, none⟩), .pointer (some ⟨b1, 0, none⟩), .pointer (some ⟨b2, 0, none⟩)]
/-- Where the first key that is out stands. -/
def IdxP (P : List Int → Bool) (l : List Ky) (w : World) (e : Ending) (w' : World) : Prop :=
  (∃ n, w' = w.drewN n) ∧ ((∃ i, ∃ hi : i < l.length, P l[i].l = true ∧ (∀ j (hj : j < l.length), j < i → P l[j].l = false) ∧ e = .returned (.int .i64 i)) ∨ ((∀ k ∈ l, P k.l = false) ∧ e = .returned (.int .i64 (-1))))
set_option maxRecDepth 100000 in
set_option maxHeartbeats 1000000 in
theorem idx_any (b0 b1 b2 : Nat) (P : List Int → Bool) (A : Option Addr) (c : Nat) (l : List Ky) (w : World) (hl : l.length ≤ 1000000) (hr : Rw w 22 (.slice A l.length c) (ksR l))
    (hf : ∀ n, ∀ k ∈ l, Calls Try.prog 72 #[.slice k.A k.l.length k.c, .pointer (some ⟨b0, 0, none⟩), .pointer (some ⟨b1, 0, none⟩), .pointer (some ⟨b2, 0, none⟩)] (w.drewN n) fun e w' => e = .returned (.bool (P k.l)) ∧ ∃ m, w' = w.drewN m) :
    Calls Try.prog 93 #[.slice A l.length c, cloS b0 b1 b2] w (IdxP P l w) := by
  have HR := Lib.hid hr
  have HF := Lib.hid hf
  clear hr hf
  unfold cloS
  go_enter Try.func93, Try.ntmps93
  go_wp2_with fail
  go_loopw [8] (fun t8 wr => ∃ i : Nat, i ≤ l.length ∧ t8 = .int .i64 i ∧ Hid (∃ n, wr = w.drewN n) ∧ Hid (∀ j (hj : j < l.length), j < i → P l[j].l = false)) (fun t8 _ => l.length - (intOf t8).toNat)
  case atStart => exact ⟨0, Nat.zero_le _, rfl, Lib.hid ⟨0, rfl⟩, Lib.hid (fun j hj h => by omega)⟩
  case round =>
    obtain ⟨i, hi, rfl, HW, HP⟩ := hrel
    obtain ⟨n, rfl⟩ := HW.out
    by_cases h : i < l.length
    · have g1 : (i : Int) < (l.length : Int) := by omega
      obtain ⟨g, rfl, hg⟩ := HR.out.cells (by rw [ksR, List.length_map]; omega)
      have d1 : w.cell? ⟨g, i, none⟩ = some (.slice l[i].A l[i].l.length l[i].c) := hg i _ (by rw [ksR, List.getElem?_map, List.getElem?_eq_getElem h]; rfl)
      have HCF := Lib.hid (HF.out n l[i] (List.getElem_mem h))
      have HPI : Hid (∃ b, P l[i].l = b) := Lib.hid ⟨_, rfl⟩
      obtain ⟨b, hb⟩ := HPI.out
      rw [hb] at HCF
      have HB := Lib.hid hb
      clear hg hb HPI
      generalize hk : l[i] = k at d1 HCF
      have HK := Lib.hid hk
      clear hk
      cases b with
      | true =>
        go_wp2_with (go_at_call 72; refine HCF.out.mono ?_; rintro e w2 ⟨rfl, n2, rfl⟩)
        go_ret
        exact ⟨⟨_, rfl⟩, .inl ⟨i, h, HB.out, HP.out, rfl⟩⟩
      | false =>
        go_wp2_with (go_at_call 72; refine HCF.out.mono ?_; rintro e w2 ⟨rfl, n2, rfl⟩)
        go_roundw
        case measure => simp [intOf]; omega
        case rel => exact ⟨i + 1, by omega, by simp, Lib.hid ⟨_, rfl⟩, Lib.hid (fun j hj hlt => by
          rcases Nat.lt_or_eq_of_le (show j ≤ i by omega) with h2 | rfl
          · exact HP.out j hj h2
          · exact HB.out)⟩
    · have g1 : decide ((i : Int) < (l.length : Int)) = false := decide_eq_false (by omega)
      have g2 : ¬ (i : Int) < (l.length : Int) := by omega
      go_wp2_with fail
      go_ret
      refine ⟨⟨_, rfl⟩, .inr ⟨fun k hk => ?_, rfl⟩⟩
      obtain ⟨j, hj, rfl⟩ := List.getElem_of_mem hk
      exact HP.out j hj (by omega)
theorem ksR_set (l : List Ky) (i : Nat) (k : Ky) : (ksR l).set i (.slice k.A k.l.length k.c) = ksR (l.set i k) := by
  unfold ksR
  rw [List.map_set]
  rfl
set_option maxRecDepth 100000 in
set_option maxHeartbeats 2000000 in
theorem delF_any (b0 b1 b2 : Nat) (P : List Int → Bool) (w0 w : World) (hB : Below w0.heap.size w0 w) (v : Value) (l : List Ky) (hl : l.length ≤ 1000000) (hr : Rw w 22 v (ksR l)) (hv : ∀ g, v.ownBlock = some g → w0.heap.size ≤ g) (hF : ∀ k ∈ l, Fk w0.heap.size w k)
    (hf : ∀ W, Below w0.heap.size w0 W → ∀ k, KRd W k → Calls Try.prog 72 #[.slice k.A k.l.length k.c, .pointer (some ⟨b0, 0, none⟩), .pointer (some ⟨b1, 0, none⟩), .pointer (some ⟨b2, 0, none⟩)] W fun e w' => e = .returned (.bool (P k.l)) ∧ ∃ m, w' = W.drewN m) :
    Calls Try.prog 71 #[v, cloS b0 b1 b2] w fun e w' => ∃ v', e = .returned v' ∧ Rw w' 22 v' (ksR (l.filter fun k => !P k.l)) ∧ (∀ g, v'.ownBlock = some g → w0.heap.size ≤ g) ∧ (∀ k ∈ l, Fk w0.heap.size w' k) ∧ Below w0.heap.size w0 w' := by
  have hkl : (ksR l).length = l.length := List.length_map _
  obtain ⟨A, c, rfl, hlc⟩ := hr.form
  rw [hkl] at hlc hr hv ⊢
  have hdn : ∀ W n, Below w0.heap.size w0 W → Below w0.heap.size w0 (W.drewN n) := fun W n h => h.trans ⟨rfl, rfl, rfl, Nat.le_refl _, fun _ _ => rfl⟩
  have HDN := Lib.hid hdn
  have HIX := Lib.hid (idx_any b0 b1 b2 P A c l w hl hr (fun n k hk => (hf _ (hdn w n hB) k ((hF k hk).rd.drewN n)).mono fun e w' ⟨h1, m, h2⟩ => ⟨h1, n + m, by rw [h2, World.drewN_drewN]⟩))
  have HR := Lib.hid hr
  have HF := Lib.hid hf
  have HFK := Lib.hid hF
  have HV := Lib.hid hv
  have HB := Lib.hid hB
  clear hr hf hv hB hkl hdn hF
  unfold cloS at *
  go_enter Try.func71, Try.ntmps71
  go_wp2_with fail
  refine HIX.out.mono ?_
  rintro e w1 ⟨⟨n1, rfl⟩, ⟨i0, hi0, hp0, hq0, rfl⟩ | ⟨hq0, rfl⟩⟩
  · have HP0 := Lib.hid hp0
    have HQ0 := Lib.hid hq0
    have hne : ((i0 : Int) == -1) = false := beq_eq_false_iff_ne.2 (by omega)
    have hne2 : ¬ (i0 : Int) = -1 := by omega
    have HR1 : Hid (Rw (w.drewN n1) 22 (.slice A l.length c) (ksR l)) := Lib.hid (HR.out.keep fun _ _ _ => rfl)
    have hE : (l.take (i0 + 1)).filter (fun k => !P k.l) = l.take i0 := by
      rw [List.take_add_one, List.getElem?_eq_getElem hi0, List.filter_append]
      have h1 : (l.take i0).filter (fun k => !P k.l) = l.take i0 := List.filter_eq_self.2 fun k hk => by
        obtain ⟨j, hj, rfl⟩ := List.getElem_of_mem hk
        rw [List.length_take] at hj
        rw [List.getElem_take, hq0 j (by omega) (by omega)]
        rfl
      rw [h1]
      simp [hp0]
    have HE := Lib.hid hE
    obtain ⟨n, hn⟩ : ∃ n, n = l.length := ⟨_, rfl⟩
    rw [← hn] at hl hlc HR1 HV hi0 ⊢
    obtain ⟨g, rfl, -⟩ := HR1.out.cells (by rw [ksR, List.length_map, ← hn]; omega)
    have hg0 : w0.heap.size ≤ g := HV.out g rfl
    have HN := Lib.hid hn
    clear hp0 hq0 hE hn HIX
    go_wp2_with fail
    go_loopw [5, 6] (fun t5 t6 wr => ∃ i j : Nat, ∃ cur : List Ky, i < j ∧ j ≤ n ∧ t5 = .int .i64 i ∧ t6 = .int .i64 j ∧ Hid (cur.length = n ∧ cur.take i = (l.take j).filter (fun k => !P k.l) ∧ cur.drop j = l.drop j) ∧ Hid (Rw wr 22 (.slice (some ⟨g, 0, none⟩) n c) (ksR cur)) ∧ Hid (∀ k ∈ l, Fk w0.heap.size wr k) ∧ Hid (Below w0.heap.size w0 wr)) (fun _ t6 _ => n - (intOf t6).toNat)
    case atStart => exact ⟨i0, i0 + 1, l, by omega, by omega, rfl, by simp, Lib.hid ⟨HN.out.symm, HE.out.symm, rfl⟩, HR1, Lib.hid (fun k hk => (HFK.out k hk).keep (Nat.le_refl _) fun _ _ _ _ => rfl), Lib.hid (HDN.out _ _ HB.out)⟩
    case round =>
      obtain ⟨i, j, cur, hij, hj, rfl, rfl, HCU, HRI, HFI, HBI⟩ := hrel
      by_cases h : j < n
      · have g1 : (j : Int) < (n : Int) := by omega
        have g2 : (i : Int) < (n : Int) := by omega
        have hjc : j < cur.length := by rw [HCU.out.1]; exact h
        have hjl : j < l.length := by rw [← HN.out]; exact h
        have hcl : cur[j] = l[j] := by
          have h1 := congrArg (fun x => x[0]?) HCU.out.2.2
          simp only [List.getElem?_drop, Nat.add_zero, List.getElem?_eq_getElem hjc, List.getElem?_eq_getElem hjl] at h1
          exact Option.some.inj h1
        have d1 : wr.cell? ⟨g, j, none⟩ = some (.slice l[j].A l[j].l.length l[j].c) := by
          have := (HRI.out.cell (j := j) (by rw [ksR, List.length_map]; exact hjc)).1
          rw [this, ← hcl]
          simp [ksR, kv]
        have HICL : i < cur.length := by rw [HCU.out.1]; omega
        obtain ⟨d2, d3⟩ := HRI.out.cell (j := i) (by rw [ksR, List.length_map]; exact HICL)
        have HCF := Lib.hid (HF.out wr HBI.out l[j] (HFI.out _ (List.getElem_mem hjl)).rd)
        have HTK := Lib.hid (show (l.take (j + 1)).filter (fun k => !P k.l) = (l.take j).filter (fun k => !P k.l) ++ (if P l[j].l then [] else [l[j]]) by
          rw [List.take_add_one, List.getElem?_eq_getElem hjl, List.filter_append]
          cases hP : P l[j].l <;> simp [hP])
        have HDR := Lib.hid (show cur.drop (j + 1) = l.drop (j + 1) by
          rw [← List.drop_drop, ← List.drop_drop, HCU.out.2.2])
        generalize hu : (ksR cur)[i]'(by rw [ksR, List.length_map]; exact HICL) = u at d2
        have HU := Lib.hid hu
        clear hu hcl
        generalize l[j] = k at d1 HCF HTK
        obtain ⟨b, hb⟩ : ∃ b, P k.l = b := ⟨_, rfl⟩
        rw [hb] at HCF HTK
        clear hb
        cases b with
        | true =>
          go_wp2_with (go_at_call 72; refine HCF.out.mono ?_; rintro e w2 ⟨rfl, n2, rfl⟩)
          go_roundw
          case measure => simp [intOf]; omega
          case rel => exact ⟨i, j + 1, cur, by omega, by omega, rfl, by simp, Lib.hid ⟨HCU.out.1, by rw [HTK.out, HCU.out.2.1]; simp, HDR.out⟩, Lib.hid (HRI.out.keep fun _ _ _ => rfl), Lib.hid (fun k hk => (HFI.out k hk).keep (Nat.le_refl _) fun _ _ _ _ => rfl), Lib.hid (HDN.out _ _ HBI.out)⟩
        | false =>
          go_wp2_with (go_at_call 72; refine HCF.out.mono ?_; rintro e w2 ⟨rfl, n2, rfl⟩)
          go_roundw
          case measure => simp [intOf]; omega
          case rel =>
            refine ⟨i + 1, j + 1, cur.set i k, by omega, by omega, by simp, by simp, Lib.hid ⟨by rw [List.length_set]; exact HCU.out.1, ?_, ?_⟩, Lib.hid ?_, Lib.hid (fun k2 hk2 => ?_), Lib.hid ?_⟩
            · rw [HTK.out, ← HCU.out.2.1, List.take_add_one, List.getElem?_set_self HICL, List.take_set]
              rw [List.set_eq_of_length_le (by rw [List.length_take]; omega)]
              simp
            · rw [List.drop_set_of_lt (by omega)]
              exact HDR.out
            · have h1 := (HRI.out.keep (w' := wr.drewN n2) fun _ _ _ => rfl).set i (.slice k.A k.l.length k.c)
              rw [ksR_set] at h1
              exact h1
            · obtain ⟨curg, hcg⟩ := (HRI.out.keep (w' := wr.drewN n2) fun _ _ _ => rfl).blk (g := g) rfl
              exact ((HFI.out k2 hk2).keep (w' := wr.drewN n2) (Nat.le_refl _) fun _ _ _ _ => rfl).keep (Nat.le_refl _) fun g2 cur2 hg2 _ => Below.heap_setCell (wr.drewN n2) ⟨g, i, none⟩ _ g2 (blk_ne hg2 hcg (by decide))
            · exact (HDN.out _ n2 HBI.out).trans ⟨rfl, rfl, rfl, by simp [World.setCell], fun c hc => Below.heap_setCell (wr.drewN n2) ⟨g, i, none⟩ _ c (by show c ≠ g; omega)⟩
      · have e1 : j = n := by omega
        have g1 : decide ((j : Int) < (n : Int)) = false := decide_eq_false (by omega)
        have g2 : ¬ (j : Int) < (n : Int) := by omega
        have hin : i < n := by omega
        have hfe : cur.take i = l.filter (fun k => !P k.l) := by rw [HCU.out.2.1, e1, HN.out, List.take_length]
        have hcu := HCU.out.1
        have hru := HRI.out
        obtain ⟨i0', hi0', hz0, hz1, hz2⟩ := info_parts infoBC
        have hs1 := fun W => slice_lo (P := Try.prog) 69 22 Try.underlying69 hi0' hz1 g n c i (i : Int) rfl (by omega) (by omega) (by omega) W
        have hs2 := fun W => slice_hi (P := Try.prog) 69 22 Try.underlying69 hi0' hz1 g n c i (i : Int) rfl (by omega) W
        rcases hru with ⟨h1, _⟩ | ⟨g', cap, CUR, h1, hg, hlc2, hcs, hm, hct⟩
        · cases h1
        have hl2 : (ksR cur).length = n := by rw [ksR, List.length_map]; exact hcu
        rw [hl2] at h1 hlc2 hct
        cases h1
        have hcl := fun ty => Lib.run_clear_slice (P := Try.prog) wr 69 22 ty (.slice none 0 0) Try.underlying69 zeroC rfl rfl g i (n - i) (c - i) (by omega) (fun j hj => by
          rw [blk_cell hg, Array.getElem?_eq_getElem (by omega)]
          rfl) (fun j hj => blk_frozen hg _)
        obtain ⟨w2, hw2⟩ : ∃ w2, w2 = wr.setCells g i (List.replicate (n - i) (.slice none 0 0)) := ⟨_, rfl⟩
        rw [← hw2] at hcl
        obtain ⟨cur2, m1, m2, m3⟩ := setCells_row (List.replicate (n - i) (Value.slice none 0 0)) i wr CUR hg (by rw [List.length_replicate]; omega)
        rw [← hw2] at m1
        have hRW : Rw w2 22 (.slice (some ⟨g, 0, none⟩) i c) (ksR (l.filter fun k => !P k.l)) := by
          have hlen : (ksR (l.filter fun k => !P k.l)).length = i := by rw [← hfe, ksR, List.length_map, List.length_take]; omega
          have h2 := Rw.mk (xs := ksR (l.filter fun k => !P k.l)) m1 (by rw [hlen]; omega) (by rw [m2]; omega) hm (by
            rw [hlen, m3, List.append_assoc, List.take_append_of_le_length (by rw [List.length_take, Array.length_toList]; omega), List.take_take, Nat.min_self, ← hfe]
            have h3 := congrArg (List.take i) hct
            rw [List.take_take, Nat.min_eq_left (by omega)] at h3
            rw [h3, ksR, ksR, List.map_take])
          rw [hlen] at h2
          exact h2
        have hBW : Below w0.heap.size w0 w2 := by
          obtain ⟨b1', b2', b3', b4'⟩ := setCells_same g (List.replicate (n - i) (Value.slice none 0 0)) i wr
          rw [← hw2] at b1' b2' b3' b4'
          refine HBI.out.trans ⟨b1', b2', b3', by rw [b4']; exact Nat.le_refl _, fun k hk => ?_⟩
          rw [hw2, setCells_far _ _ k (by omega)]
        have hFW : ∀ k ∈ l, Fk w0.heap.size w2 k := fun k hk => (HFI.out k hk).keep (Nat.le_refl _) fun g2 cur2 hg2 _ => by
          rw [hw2, setCells_far _ _ g2 (blk_ne hg2 hg (by decide))]
        have HFW := Lib.hid hFW
        have HRW := Lib.hid hRW
        have HBW := Lib.hid hBW
        have HCL := Lib.hid hcl
        clear hRW hBW hFW hcl hw2 m1 m2 m3 hg hct hcs hl2 hfe e1 hcu hi0' hz0 hz1 hz2 HCU HRI
        go_wp2_with (first | simp only [hs1, hs2] | simp only [HCL.out])
        go_ret
        exact ⟨_, rfl, HRW.out, HV.out, HFW.out, HBW.out⟩
  · have hfe : l.filter (fun k => !P k.l) = l := List.filter_eq_self.2 fun k hk => by rw [hq0 k hk]; rfl
    have HFE := Lib.hid hfe
    clear hq0 hfe HIX
    go_wp2_with fail
    go_ret
    rw [HFE.out]
    exact ⟨_, rfl, HR.out.keep fun _ _ _ => rfl, HV.out, fun k hk => (HFK.out k hk).keep (Nat.le_refl _) fun _ _ _ _ => rfl, HDN.out _ _ HB.out⟩
/-- What Span answers. -/
def SpanP (l : List (List Int)) (w : World) (e : Ending) (w' : World) : Prop := ∃ (A : Option Addr) (c : Nat) (K : List Ky), e = .returned (.slice A l.length c) ∧ K.map (·.l) = l ∧ Rw w' 22 (.slice A l.length c) (ksR K) ∧ (∀ k ∈ K, Fk w.heap.size w' k) ∧ Below w.heap.size w w'
set_option maxRecDepth 100000 in
set_option maxHeartbeats 1000000 in
theorem CT.span {base : Nat} {w : World} {o : Nat → Nat} {p m : Nat} {L : List (List Int × Int)} (T : CT base w o p m L) (hm : 3 ≤ m ∧ m ≤ 64) (hl : L.length ≤ 65536) (low high : Ky) (hlo : KRd w low) (hhi : KRd w high) :
    Calls Try.prog 41 #[nv p, kv low, kv high] w (SpanP ((L.map (·.1)).filter fun k => !outC low.l high.l k) w) := by
  have hT := T
  obtain ⟨h, t, M, b, rfl⟩ := T
  obtain ⟨w1, hw1⟩ : ∃ w1, w1 = w.alloc (.cells #[.pointer (some ⟨p, 0, none⟩)] 66) := ⟨_, rfl⟩
  obtain ⟨w2, hw2⟩ : ∃ w2, w2 = w1.alloc (.cells #[kv low] 22) := ⟨_, rfl⟩
  obtain ⟨w3, hw3⟩ : ∃ w3, w3 = w2.alloc (.cells #[kv high] 22) := ⟨_, rfl⟩
  have s1 : w1.heap.size = w.heap.size + 1 := by rw [hw1]; exact Array.size_push _
  have s2 : w2.heap.size = w.heap.size + 1 + 1 := by rw [hw2]; exact (Array.size_push _).trans (by rw [s1])
  have s3 : w3.heap.size = w.heap.size + 1 + 1 + 1 := by rw [hw3]; exact (Array.size_push _).trans (by rw [s2])
  have b1 : Below w.heap.size w w1 := by rw [hw1]; exact (Below.refl _ _).alloc (Nat.le_refl _) _
  have b2 : Below w1.heap.size w1 w2 := by rw [hw2]; exact (Below.refl _ _).alloc (Nat.le_refl _) _
  have b3 : Below w2.heap.size w2 w3 := by rw [hw3]; exact (Below.refl _ _).alloc (Nat.le_refl _) _
  have t1 := top_blk w #[.pointer (some ⟨p, 0, none⟩)] 66
  have t2 := top_blk w1 #[kv low] 22
  have t3 := top_blk w2 #[kv high] 22
  rw [← hw1] at t1
  rw [← hw2, s1] at t2
  rw [← hw3, s2] at t3
  have b13 : Below w.heap.size w w3 := b1.trans ((b2.trans (b3.mono (by omega))).mono (by omega))
  have hsp : SpB w3 p m (toL h t).length t.id w.heap.size (w.heap.size + 1) (w.heap.size + 1 + 1) low high := ⟨⟨o, (b13.block p (blk_lt b.at_.blk)).trans b.at_.blk, b.at_.tg⟩, (b3.block _ (by omega)).trans ((b2.block _ (by omega)).trans t1), (b3.block _ (by omega)).trans t2, t3, hlo.below b13 (Nat.le_refl _), hhi.below b13 (Nat.le_refl _)⟩
  have hT3 : CT base w3 o p m (cts (toL h t)) := hT.keep (by omega) fun c hc _ => b13.block c hc
  have HGD := Lib.hid (good_any p m _ _ w3 o (⟨(b13.block p (blk_lt b.at_.blk)).trans b.at_.blk, b.at_.tg⟩ : TrAt w3 o p m (toL h t).length t.id))
  have HKY := Lib.hid (hT3.keys hm hl)
  have c1 := blk_cell hsp.t0 0
  simp only [List.getElem?_toArray, List.getElem?_cons_zero] at c1
  have HDL := Lib.hid (show ∀ w4 v (K : List Ky), Below w3.heap.size w3 w4 → w4.ownsRow w3.heap.size 22 1 v (cts (toL h t)).length (ksR K) → K.length ≤ 1000000 → (∀ k ∈ K, Fk w3.heap.size w4 k) → _ from fun w4 v K hb4 ho4 hK hF4 => delF_any w.heap.size (w.heap.size + 1) (w.heap.size + 1 + 1) (outC low.l high.l) w3 w4 hb4 v K hK (Rw.of_own ho4) (fun g hg => (World.ownsRow.lt ho4 g hg).1) hF4 (fun W hW k hk => span1_any p m _ _ _ _ _ low high k W (hsp.below hW) hk))
  have HB13 := Lib.hid b13
  have HS3 := Lib.hid s3
  generalize cts (toL h t) = L at *
  generalize (toL h t).length = sz at *
  have HL := Lib.hid hl
  unfold nv cloS at *
  clear hT hT3 hsp b s1 s2 s3 b1 b2 b3 b13 t1 t2 t3 hl hlo hhi
  subst hw3 hw2 hw1
  unfold kv at *
  go_enter Try.func41, Try.ntmps41
  go_wp2_with (first | (go_at_call 63; refine HGD.out.mono ?_; rintro e w' ⟨rfl, e2⟩; rw [e2]; clear e2 w'))
  refine HKY.out.mono ?_
  rintro e w4 ⟨A4, c4, K4, rfl, hkl, ho4, hf4, hb4⟩
  have hkn : K4.length = L.length := by have := congrArg List.length hkl; rw [List.length_map, List.length_map] at this; exact this
  have hdf := HDL.out w4 _ K4 hb4 ho4 (by rw [hkn]; have := HL.out; omega) hf4
  have HDF := Lib.hid hdf
  have HKL := Lib.hid hkl
  have HB4 := Lib.hid hb4
  clear hdf ho4 hb4 hkl hf4 hkn
  go_wp2_with (go_at_call 71; refine HDF.out.mono ?_; rintro e w5 ⟨v5, rfl, hr5, hv5, hf5, hb5⟩)
  go_ret
  have hs : w.heap.size ≤ _ := HB13.out.size
  obtain ⟨A5, c5, e5, -⟩ := hr5.form
  have hkl5 : (ksR (K4.filter fun k => !outC low.l high.l k.l)).length = (K4.filter fun k => !outC low.l high.l k.l).length := List.length_map _
  rw [hkl5] at e5
  subst e5
  have hfm : (K4.filter fun k => !outC low.l high.l k.l).map (·.l) = (L.map (·.1)).filter fun k => !outC low.l high.l k := by
    rw [← HKL.out, List.filter_map]
    rfl
  have hfl : (K4.filter fun k => !outC low.l high.l k.l).length = ((L.map (·.1)).filter fun k => !outC low.l high.l k).length := by rw [← hfm, List.length_map]
  rw [hfl] at hr5 ⊢
  exact ⟨A5, c5, _, rfl, hfm, hr5, fun k hk => (hf5 k (List.mem_filter.1 hk).1).keep hs fun _ _ _ _ => rfl, HB13.out.trans (hb5.mono hs)⟩
end Go.Proofs.Ytfhonfeopkhdeaa.BC
