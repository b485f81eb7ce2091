/-
  match.tokens. No premise.
-/
import Derived.Test.YtdfpikimeihefaaMat2
namespace Go.Proofs.Ytdfpikimeihefaa
open Go.RowKit Go.Shelf Go.Proofs.YtdfpikimeihefaaW.PrintWords

theorem rd_row (w : World) (l : List Int) (hl : l.length ≤ 9223372036854775807) (C : Array Value) (hC : C = (nums .u8 l).toArray) (fr : Nat × Nat) : Rd (w.alloc (.cells C 5 fr)) (some ⟨w.heap.size, 0, none⟩) l := by
  subst hC
  refine ⟨rfl, hl, fun _ => ⟨_, rfl, fun j hj => ?_⟩⟩
  have he : (⟨w.heap.size, 0, none⟩ : Addr).add j = ⟨w.heap.size, j, none⟩ := by
    unfold Addr.add
    split
    · next h => rw [h]
    · simp
  rw [he, World.cell?_alloc_mark]
  simp [nums, List.getElem?_eq_getElem hj]
/-- append(v, y, z). -/
theorem app2 {ops : Array Oper} {rest : List Oper} {o : Oper} {a : Act} {Q : Exit → Act → World → Prop} {W : World} (base : Nat) (hgd : o.guard = none) (s x : Operand)
    (ho : o.op = .call { callee := .builtin .append, args := #[s, x], argTypes := #[28, 28] })
    (v : Value) (xs : List Int) (y z : Int) (hs : a.eval s = v) (hx : a.eval x = .slice (some ⟨W.heap.size, 0, none⟩) 2 2) (HO : Own W base v xs) (hbase : base ≤ W.heap.size)
    (hl : xs.length + 2 ≤ 150000000000000)
    (h : ∀ v1 w1, Own w1 base v1 (xs ++ [y, z]) → W.grownBy w1 v.ownBlock → wpList Try.prog ops Q rest (a.put o.dst v1) w1) :
    wpList Try.prog ops Q (o :: rest) a (W.alloc (.cells #[.int .u8 y, .int .u8 z] 5)) := by
  refine app base hgd s x ho v xs [y, z] (some ⟨W.heap.size, 0, none⟩) 2 hs hx (HO.alloc _) (rd_row W [y, z] (by simp) _ rfl (0, 0)) (by simp; omega) hl ?_
  intro v1 w1 h1 h2
  exact h v1 w1 h1 (World.grownBy.trans (World.grownBy_alloc W _ _) h2)
theorem TokSt.drewN {w0 : World} {A : Option Addr} {c : Nat} {l : List Int} {fr : Nat} {o : List Int} {v : Value} {w : World} (h : TokSt w0 A c l fr o v w) (m : Nat) : TokSt w0 A c l fr o v (w.drewN m) :=
  ⟨h.b0, h.b1, h.b2, h.own, pw_below_drewN h.low m⟩
theorem TokSt.size {w0 : World} {A : Option Addr} {c : Nat} {l : List Int} {fr : Nat} {o : List Int} {v : Value} {w : World} (h : TokSt w0 A c l fr o v w) : w0.heap.size + 3 ≤ w.heap.size := by have := blk_lt h.b1; omega
theorem tok_bound {l o : List Int} {at_ fr : Nat} (h : o ++ tkF l at_ fr = tkL l) (hl : l.length ≤ 100000) : o.length ≤ 200000 := by
  have h1 := congrArg List.length h
  have h2 := tkL_length l
  rw [List.length_append] at h1
  omega
set_option maxRecDepth 100000 in
set_option maxHeartbeats 2000000 in
theorem tokens_any (A : Option Addr) (c : Nat) (l : List Int) (w : World) (hr : Rd w A l) (hc : l.length ≤ c) (hl : l.length ≤ 100000) :
    Calls Try.prog 55 #[.slice A l.length c] w fun e w' => ∃ v, e = .returned v ∧ Own w' w.heap.size v (tkL l) ∧ Below w.heap.size w w' := by
  have HR := Lib.hid hr
  clear hr
  go_enter Try.func55, Try.ntmps55
  go_wp2_with fail
  have hst : TokSt w A c l 0 [] (.slice none 0 0) (((w.alloc (.cells #[.slice A l.length c] 28)).alloc (.cells #[.slice none 0 0] 28)).alloc (.cells #[.int .i64 0] 3)) := by
    refine ⟨?_, ?_, ?_, World.ownsRow_nil _ _ _ _, (((Below.refl _ w).alloc (Nat.le_refl _) _).alloc (by simp) _).alloc (by simp; omega) _⟩
    · exact ((Below.heap_alloc _ _ _ (by simp; omega)).trans (Below.heap_alloc _ _ _ (by simp))).trans (World.alloc_heap_new w _)
    · have := World.alloc_heap_new ((w.alloc (.cells #[.slice A l.length c] 28)).alloc (.cells #[.slice none 0 0] 28)) (.cells #[.int .i64 0] 3)
      simp only [World.size_alloc] at this
      exact this
    · have := World.alloc_heap_new (w.alloc (.cells #[.slice A l.length c] 28)) (.cells #[.slice none 0 0] 28)
      simp only [World.size_alloc] at this
      exact (Below.heap_alloc _ _ _ (by simp)).trans this
  have HST := Lib.hid hst
  clear hst
  generalize ((w.alloc (.cells #[.slice A l.length c] 28)).alloc (.cells #[.slice none 0 0] 28)).alloc (.cells #[.int .i64 0] 3) = w1 at HST ⊢
  go_loopw [6] (fun t wr => ∃ (at_ fr : Nat) (o : List Int) (v : Value), at_ ≤ l.length ∧ fr ≤ at_ ∧ t = .int .i64 at_ ∧ Hid (TokSt w A c l fr o v wr) ∧ Hid (o ++ tkF l at_ fr = tkL l)) (fun t _ => l.length - (intOf t).toNat)
  case atStart => exact ⟨0, 0, [], _, Nat.zero_le _, Nat.le_refl _, rfl, HST.out, rfl⟩
  case round =>
    obtain ⟨at_, fr, o, v, ha, hf, rfl, HS, HT⟩ := hrel
    have hq := blk_cell HS.out.b0 0
    simp only [List.getElem?_toArray, List.getElem?_cons_zero] at hq
    have hob := tok_bound HT.out hl
    by_cases hal : at_ < l.length
    · obtain ⟨ad, rfl, _⟩ := HR.out.2.2 (by omega)
      have HF := Lib.hid (find_any ad c l at_ wr (HR.out.below HS.out.low) hc (by omega) hal)
      have HON := Lib.hid (tkF_on l at_ fr hal)
      have HCO := Lib.hid (tkF_copy l at_ fr hal)
      have hb1 := best_room l at_
      have hb2 := best_by l at_
      obtain ⟨n, hn⟩ : ∃ n, n = (best l at_).1 := ⟨_, rfl⟩
      obtain ⟨d, hd⟩ : ∃ d, d = (best l at_).2 := ⟨_, rfl⟩
      rw [← hn] at hb1 HON HCO
      rw [← hd] at hb2 HCO
      have HN := Lib.hid hn
      have HD := Lib.hid hd
      clear hn hd
      by_cases hn4 : n < 4
      · have H1 := Lib.hid (HON.out hn4)
        clear HON HCO
        go_wp2_with (go_at_call 65; refine HF.out.mono ?_; rintro e w2 ⟨rfl, m, rfl⟩; rw [← HN.out, ← HD.out])
        go_roundw
        case rel => exact ⟨at_ + 1, fr, o, v, by omega, by omega, by push_cast; rfl, HS.out.drewN m, by rw [← H1.out]; exact HT.out⟩
        case measure => simp [intOf]; omega
      · have H1 := Lib.hid (HCO.out hn4)
        clear HON HCO
        go_wp2_with (go_at_call 65; refine HF.out.mono ?_; rintro e w2 ⟨rfl, m, rfl⟩; rw [← HN.out, ← HD.out])
        refine (flush_any (some ad) c l at_ fr o v w _ HR.out hc hl hf ha (by omega) (HS.out.drewN m)).mono ?_
        rintro e w3 ⟨rfl, v3, hst3⟩
        have HS3 := Lib.hid hst3
        have hq3 := blk_cell hst3.b2 0
        have hf3 := blk_frozen hst3.b2 0
        simp only [List.getElem?_toArray, List.getElem?_cons_zero] at hq3
        obtain ⟨o3, ho3⟩ : ∃ o3, o3 = o ++ rnL ((l.take at_).drop fr) := ⟨_, rfl⟩
        have HT3 := Lib.hid (show o3 ++ [128 + (n : Int) - 4, (d : Int)] ++ tkF l (at_ + n) (at_ + n) = tkL l by
          rw [show 128 + (n : Int) - 4 = 124 + (n : Int) from by omega]
          have := HT.out
          rw [H1.out] at this
          rw [ho3, ← this]
          simp)
        have hol3 : o3.length ≤ 300000 := by
          have h1 := congrArg List.length HT3.out
          have h2 := tkL_length l
          rw [List.length_append, List.length_append] at h1
          omega
        rw [← ho3] at HS3
        have hz3 := HS3.out.size
        clear hst3 ho3 H1 HT hq
        go_wp2_with ((with_reducible refine gate_builtin (b := .append) (xs := #[.tmp 27, .tmp 34]) rfl ?_); refine app2 (w.heap.size + 3) rfl _ _ rfl v3 o3 (128 + (n : Int) - 4) d rfl rfl HS3.out.own hz3 (by omega) ?_)
        intro v4 w4 h4 g4
        have S4 := Lib.hid (Bst.grown (n0 := w.heap.size) HS3.out.own (by omega) (by omega) g4)
        have hc4 := blk_cell (S4.out.cel _ _ _ (by decide) HS3.out.b2) 0
        have hf4 := blk_frozen (S4.out.cel _ _ _ (by decide) HS3.out.b2) 0
        have hc5 := blk_cell (S4.out.cel _ _ _ (by decide) HS3.out.b1) 0
        have hf5 := blk_frozen (S4.out.cel _ _ _ (by decide) HS3.out.b1) 0
        simp only [List.getElem?_toArray, List.getElem?_cons_zero] at hc4 hc5
        obtain ⟨o4, ho4⟩ : ∃ o4, o4 = o3 ++ [128 + (n : Int) - 4, (d : Int)] := ⟨_, rfl⟩
        have HT4 := HT3.out
        rw [← ho4] at HT4 h4
        have HT5 := Lib.hid HT4
        have H4 := Lib.hid h4
        rcases own_cases h4 with ⟨_, h⟩ | ⟨g, cap, rfl⟩
        · have := congrArg List.length h
          rw [ho4] at this
          simp at this
        have h9 := (HS3.out.step S4.out H4.out).from (at_ + n)
        rw [Int.natCast_add] at h9
        have H9 := Lib.hid h9
        clear h4 g4 ho4 HT4 hq3 hf3 h9
        go_wp2_with fail
        go_roundw
        case rel => exact ⟨at_ + n, at_ + n, o4, _, by omega, Nat.le_refl _, by push_cast; rfl, H9.out, HT5.out⟩
        case measure => simp [intOf]; omega
    · have hae : at_ = l.length := by omega
      have HT' := HT.out
      rw [tkF_end l at_ fr (by omega)] at HT'
      have HT2 := Lib.hid (show o ++ rnL ((l.take l.length).drop fr) = tkL l by rw [List.take_of_length_le (Nat.le_refl _)]; exact HT')
      have hfl : fr ≤ l.length := by omega
      clear HT' hae
      go_wp2_with fail
      refine (flush_any A c l l.length fr o v _ _ HR.out hc hl hfl (Nat.le_refl _) (by omega) HS.out).mono ?_
      rintro e w3 ⟨rfl, v3, hst3⟩
      rw [HT2.out] at hst3
      have hq3 := blk_cell hst3.b2 0
      simp only [List.getElem?_toArray, List.getElem?_cons_zero] at hq3
      have HS3 := Lib.hid hst3
      clear hst3
      go_wp2_with fail
      go_ret
      exact ⟨_, rfl, own_less HS3.out.own (by omega), HS3.out.low⟩
end Go.Proofs.Ytdfpikimeihefaa
