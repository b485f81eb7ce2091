/-
  Filters that are appended to rows of one's own; slabvaultlaw16.same. No premise.
-/
import Derived.Test.YtdfpikimeihefaaFlR
import Derived.SizedLaws
import Derived.Test.YtdfpikimeihefaaLive16
namespace Go.Proofs.Ytdfpikimeihefaa
open Go.ChangeShapes Go.WideShapes Go.Deep Go.RowKit Go.Proofs.YtdfpikimeihefaaW.PrintWords

theorem sized_fls {H : Type} {enc : TypeId × Value → H} {W : World} {base : Nat} {spare : Nat → Bool} {held : Bool} {a : Option Addr} {len cap : Nat} {d : DataW H} {ps : List MemPlace} {ts : List TypeId} {ds : List (DataW H)} {j : Nat}
    (hsz : (DataW.weightsEach Try.prog ts ds).all (· ≤ reachBytes) = true) (ht : ts[j]? = some 22) (hd : ds[j]? = some d)
    (h : DataW.Trod enc Try.prog W base spare held 22 (.slice a len cap) d ps) : len * 16 ≤ 140737488351232 := by
  obtain ⟨fuel, hf⟩ := h
  have hf' : DataW.trod enc Try.prog W base spare held fuel 22 [.slice a len cap] = some (d, ps) := by simpa [Value.cells] using hf
  rcases open_slice_pairs Try.underlying22 Try.underlying43 (by kernel_rfl) rfl rfl (by kernel_rfl) (by kernel_rfl) hf' with ⟨hcs, _⟩ | ⟨b, n, c, m, f, V0, V1, D0, D1, P0, P1, hcs, _, hl, hm, hmm, hxx, _⟩
  · simp at hcs
    obtain ⟨rfl, rfl, rfl⟩ := hcs
    simp
  · simp at hcs
    obtain ⟨rfl, rfl, rfl⟩ := hcs
    obtain ⟨hx, _⟩ := Prod.mk.inj hxx
    subst hx
    have z := sized_slice hsz ht hd Try.underlying22
    have hB : Try.prog.bytesOf 43 = 16 := by kernel_rfl
    rw [hB, List.length_map, List.length_range] at z
    have : reachBytes ≤ 140737488351232 := by decide
    omega
def flv (l : List Fl) : List Value := l.flatMap fun f => [.int .i64 f.1, .int .i64 f.2]
theorem flv_length (l : List Fl) : (flv l).length = l.length * 2 := by
  induction l with
  | nil => rfl
  | cons f l ih => rw [flv, List.flatMap_cons, List.length_append]; show 2 + (flv l).length = _; rw [ih, List.length_cons]; omega
theorem flv_append (a b : List Fl) : flv (a ++ b) = flv a ++ flv b := by unfold flv; exact List.flatMap_append
theorem flv_at (l : List Fl) (i : Nat) (h : i < l.length) : (flv l)[i * 2]? = some (.int .i64 (l.getD i (0, 0)).1) ∧ (flv l)[i * 2 + 1]? = some (.int .i64 (l.getD i (0, 0)).2) := by
  induction l generalizing i with
  | nil => simp at h
  | cons f l ih =>
    have e : flv (f :: l) = .int .i64 f.1 :: .int .i64 f.2 :: flv l := rfl
    cases i with
    | zero => exact ⟨rfl, rfl⟩
    | succ i =>
      have := ih i (by simpa using h)
      rw [e, show (i + 1) * 2 = i * 2 + 1 + 1 from by omega, List.getElem?_cons_succ, List.getElem?_cons_succ, List.getElem?_cons_succ, List.getElem?_cons_succ]
      exact this
theorem flv_one {l : List Fl} {u : Value} (h : u ∈ flv l) : u.oneCell' = true := by
  unfold flv at h
  obtain ⟨f, _, hu⟩ := List.mem_flatMap.1 h
  simp only [List.mem_cons, List.not_mem_nil, or_false] at hu
  rcases hu with rfl | rfl <;> rfl
/-- A row of filters of the call's own. -/
def OwnF (w : World) (base : Nat) (v : Value) (l : List Fl) : Prop := w.ownsRow base 43 2 v l.length (flv l)
theorem infoF : (Try.prog.info? 43).map (fun i => (i.zero, i.size, i.bytes)) = some (some (.agg #[.int .i64 0, .int .i64 0]), 2, 16) := by kernel_rfl
theorem ownF_empty (W : World) (base : Nat) (hb : base ≤ W.heap.size) : OwnF (W.alloc (.cells #[] 43)) base (.slice (some ⟨W.heap.size, 0, none⟩) 0 0) [] :=
  World.ownsRow_made W #[] 0 hb (by simp [maxLen]) (by simp)
theorem ownF_fls {w : World} {base : Nat} {v : Value} {l : List Fl} (h : OwnF w base v l) (hl : l.length ≤ 9223372036854775807) : ∃ A c, v = .slice A l.length c ∧ Fls w A l := by
  rcases h.2 with ⟨rfl, hn⟩ | ⟨g, cap, cur, rfl, _, hg, hnc, _, hcs, htk⟩
  · refine ⟨none, 0, by rw [hn], hl, fun h0 => by omega⟩
  · refine ⟨some ⟨g, 0, none⟩, cap, rfl, hl, fun _ => ⟨_, rfl, fun i hi => ?_⟩⟩
    obtain ⟨h0, h1⟩ := flv_at l i hi
    have hc : ∀ j u, j < l.length * 2 → (flv l)[j]? = some u → w.cell? ((⟨g, 0, none⟩ : Addr).add j) = some u := fun j u hj hu => by
      rw [← htk, List.getElem?_take_of_lt hj] at hu
      have e : (⟨g, 0, none⟩ : Addr).add j = ⟨g, j, none⟩ := by unfold Addr.add; split <;> simp_all
      rw [e, blk_cell hg]
      rw [Array.getElem?_toList] at hu
      exact hu
    exact ⟨hc _ _ (by omega) h0, hc _ _ (by omega) h1⟩
theorem ownF_below {w w' : World} {base : Nat} {v : Value} {l : List Fl} (h : OwnF w base v l) (hb : Below w.heap.size w w') : OwnF w' base v l := by
  refine ⟨h.1, ?_⟩
  rcases h.2 with hn | ⟨g, cap, cur, rfl, hbg, hg, rest⟩
  · exact .inl hn
  · exact .inr ⟨g, cap, cur, rfl, hbg, (hb.block g (Array.getElem?_eq_some_iff.1 hg).1).trans hg, rest⟩
/-- append(v, ys...): ys read, nil let in; v a row of the call's own. -/
theorem appF {ops : Array Oper} {rest : List Oper} {o : Oper} {a : Act} {Q : Exit → Act → World → Prop} {W : World} (base : Nat) (hgd : o.guard = none) (s x : Operand)
    (ho : o.op = .call { callee := .builtin .append, args := #[s, x], argTypes := #[22, 22] })
    (v : Value) (xs ys : List Fl) (A : Option Addr) (c : Nat) (hs : a.eval s = v) (hx : a.eval x = .slice A ys.length c) (HO : OwnF W base v xs) (HR : Fls W A ys) (hbase : base ≤ W.heap.size)
    (hl : xs.length + ys.length ≤ 10000000000000)
    (h : ∀ v1 w1, OwnF w1 base v1 (xs ++ ys) → W.grownBy w1 v.ownBlock → wpList Try.prog ops Q rest (a.put o.dst v1) w1) :
    wpList Try.prog ops Q (o :: rest) a W := by
  obtain ⟨i0, hi, hz0, hz1, hz2⟩ := info_parts infoF
  rcases A with _ | ad
  · have h0 : ys = [] := by
      rcases ys with _ | ⟨y, ys⟩
      · rfl
      · obtain ⟨ad, h, _⟩ := HR.2 (by simp)
        cases h
    subst h0
    have hrun : (Builtin.append_ #[22, 22] o.type #[v, .slice none 0 c]).run Try.prog W = .ok v W := by
      rcases HO.2 with ⟨rfl, hn⟩ | ⟨g, cap, cur, rfl, _, _, hnc, _⟩
      · simp [Builtin.append_, run_underlying Try.underlying22, sizeOf, typeInfo, hi, Builtin.lenOf, Builtin.firstCells]
      · simp [Builtin.append_, run_underlying Try.underlying22, sizeOf, typeInfo, hi, Builtin.lenOf, Builtin.firstCells, hnc, storeCells]
    refine wpList_plain hgd fun K hK => ?_
    unfold Oper.wp execOp
    simp only [ho, resolve, invoke, builtin, Sem.run_bind, Sem.run_pure, Result.andThen_ok, List.map_toArray, List.map_cons, List.map_nil, hs, hx, List.length_nil, hrun]
    exact hK _ _ (h v W (by rw [List.append_nil]; exact HO) (World.grownBy.refl _ _))
  · have hcells : ∀ j u, (flv ys)[j]? = some u → W.cell? (ad.add j) = some u := by
      intro j u hu
      have hj : j < ys.length * 2 := by
        have := (List.getElem?_eq_some_iff.1 hu).1
        rwa [flv_length] at this
      obtain ⟨ad', h', hc⟩ := HR.2 (by omega)
      injection h' with h'
      subst h'
      obtain ⟨c0, c1⟩ := hc (j / 2) (by omega)
      obtain ⟨f0, f1⟩ := flv_at ys (j / 2) (by omega)
      rcases Nat.mod_two_eq_zero_or_one j with hm | hm
      · have e : j / 2 * 2 = j := by omega
        rw [e] at c0 f0
        rw [c0, ← hu, f0]
      · have e : j / 2 * 2 + 1 = j := by omega
        rw [e] at c1 f1
        rw [c1, ← hu, f1]
    refine wpList_append_own_wide W hgd s x 22 ho base 43 i0 (.agg #[.int .i64 0, .int .i64 0]) 2 16 Try.underlying22 hi hz0 hz1 hz2 rfl (by decide) v xs.length (flv xs) hs HO ad ys.length c (flv ys) hx (flv_length ys) hcells
      (fun u hu => flv_one hu) (by simp only [maxLen]; omega) (by omega) hbase ?_
    intro v' w' h2 h3 _
    refine h v' w' ?_ h3
    unfold OwnF
    rw [List.length_append, flv_append]
    exact h2
set_option maxHeartbeats 1600000 in
theorem same_any (A B : Option Addr) (c d : Nat) (l : List Fl) (w : World) (ha : Fls w A l) (hb : Fls w B l) :
    Calls Try.prog 17 #[.slice A l.length c, .slice B l.length d] w fun e w' => e = .returned (.bool true) ∧ Below w.heap.size w w' := by
  have HA := Lib.hid ha
  have HB := Lib.hid hb
  have hll := ha.1
  clear ha hb
  go_enter Try.func17, Try.ntmps17
  go_wp2_with fail
  go_loopw [5] (fun i wr => ∃ k : Nat, k ≤ l.length ∧ i = .int .i64 k ∧ Hid (Below w.heap.size w wr)) (fun i _ => l.length - (intOf i).toNat)
  case atStart => exact ⟨0, by omega, rfl, Below.refl _ _⟩
  case round =>
    obtain ⟨k, hk, rfl, HW⟩ := hrel
    by_cases hlt : k < l.length
    · obtain ⟨ad, rfl, hc⟩ := (HA.out.below HW.out).2 (by omega)
      obtain ⟨bd, rfl, hd⟩ := (HB.out.below HW.out).2 (by omega)
      obtain ⟨hc0, hc1⟩ := hc k hlt
      obtain ⟨hd0, hd1⟩ := hd k hlt
      obtain ⟨hc2, hc3⟩ := snd_cell hc1
      obtain ⟨hd2, hd3⟩ := snd_cell hd1
      clear hc hd
      generalize l.getD k (0, 0) = f at *
      obtain ⟨kk, dd⟩ := f
      simp only at hc0 hc1 hc2 hc3 hd0 hd1 hd2 hd3
      go_wp2_with fail
      go_quiet (fail)
      go_wp2_with fail
      go_roundw
      case rel => exact ⟨k + 1, by omega, by go_num, pw_below_drewN HW.out _⟩
      case measure => simp [intOf]; omega
    · go_wp2_with fail
      go_ret
      exact ⟨rfl, HW.out⟩
end Go.Proofs.Ytdfpikimeihefaa
