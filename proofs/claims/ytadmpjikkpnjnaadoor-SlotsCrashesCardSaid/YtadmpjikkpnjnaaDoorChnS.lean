/-
  slices.Chunk over bytes, as an iterator that is counted. No premise.
-/
import Derived.Test.YtadmpjikkpnjnaaDoorRngS
import Derived.Test.YtadmpjikkpnjnaaDoorShf2
import Derived.RangeFuncBound
import Derived.Shelf.Abstract
import Derived.Shelf.RegionOpen
import Derived.OwnWalkIn
import Derived.TacticsInMore
import Derived.LoopNIn
import Derived.LoopIn
namespace Go.Proofs.YtadmpjikkpnjnaaDoor
open Go.RowKit Go.Shelf Go.Proofs.YtadmpjikkpnjnaaDoorW.PrintWords
attribute [local go_sem] Oper.semAt_some

/-- The k-th piece. -/
def chv (A : Option Addr) (len sz k : Nat) : Value := .slice (A.map (·.add (k * sz))) (min sz (len - k * sz)) (min sz (len - k * sz))
def chN (len sz : Nat) : Nat := (len + sz - 1) / sz
theorem chN_lt {len sz k : Nat} (h1 : 1 ≤ sz) : k < chN len sz ↔ k * sz < len := by
  unfold chN
  rw [Nat.lt_div_iff_mul_lt (by omega)]
  rw [Nat.mul_comm]
  omega
theorem run_slice3 {P : Program} (t e : TypeId) {i : TypeInfo} (ht : P.underlying t = some (.slice e)) (hi : P.info? e = some i) (hsz : i.size = 1) (A : Option Addr) (n c lo hi' : Nat) (h1 : lo < hi') (h2 : hi' ≤ c) (W : World) :
    (Instr.slice t (.slice A n c) (some (.int .i64 (lo : Int))) (some (.int .i64 (hi' : Int))) (some (.int .i64 (hi' : Int)))).run P W = .ok (.slice (A.map (·.add lo)) (hi' - lo) (hi' - lo)) W := by
  simp [Instr.slice, Instr.sliceBounds, Instr.sliceBound, asIntOf, run_underlying ht, sizeOf, typeInfo, hi, hsz, h2, Nat.le_of_lt h1, show ¬ hi' = lo from by omega]
theorem run_slice_lo {P : Program} (t e : TypeId) {i : TypeInfo} (ht : P.underlying t = some (.slice e)) (hi : P.info? e = some i) (hsz : i.size = 1) (A : Option Addr) (n c lo : Nat) (h1 : lo < n) (h2 : n ≤ c) (W : World) :
    (Instr.slice t (.slice A n c) (some (.int .i64 (lo : Int))) none none).run P W = .ok (.slice (A.map (·.add lo)) (n - lo) (c - lo)) W := by
  simp [Instr.slice, Instr.sliceBounds, Instr.sliceBound, asIntOf, run_underlying ht, sizeOf, typeInfo, hi, hsz, Nat.le_of_lt h1, show ¬ c = lo from by omega]
set_option maxHeartbeats 400000 in
theorem chunk_any (A : Option Addr) (n c sz : Nat) (w : World) (h1 : 1 ≤ sz) :
    Calls Tryd.prog 54 #[.slice A n c, .int .i64 sz] w fun e w' => e = .returned (.func (.func 55) #[] #[.pointer (some ⟨w.heap.size, 0, none⟩), .pointer (some ⟨w.heap.size + 1, 0, none⟩)]) ∧ (w.alloc (.cells #[.slice A n c] 25)).alloc (.cells #[.int .i64 sz] 3) = w' := by
  go_enter Tryd.func54, Tryd.ntmps54
  go_wp2_with fail
  go_ret
  exact ⟨rfl, rfl⟩
set_option maxRecDepth 100000 in
set_option maxHeartbeats 2000000 in
theorem chunk_seq (F : Fence) (n : Nat) (hF : F.fn 55) (hro : F.round = none) (hn : 1 ≤ n) (bs bn : Nat) (A : Option Addr) (len cap sz : Nat) (hc : len ≤ cap) (hl : len ≤ 150000000000000) (h1 : 1 ≤ sz) (hsz : sz ≤ 1000) (w : World)
    (hbs : w.heap[bs]? = some (.cells #[.slice A len cap] 25 (0, 0))) (hbn : w.heap[bn]? = some (.cells #[.int .i64 sz] 3 (0, 0))) :
    SeqI F n Tryd.prog 55 #[.pointer (some ⟨bs, 0, none⟩), .pointer (some ⟨bn, 0, none⟩)] (fun k => #[chv A len sz k]) (fun i => i = bs ∨ i = bn) (fun _ => False) (fun _ X Y => Same (fun i => i = bs ∨ i = bn) X Y) (chN len sz) w := by
  intro l J Jx W hW hS hJ hJx hY h0
  have HS0 := Lib.hid hS
  have HJ := Lib.hid hJ
  have HY := Lib.hid hY
  have HBS := Lib.hid hbs
  have HBN := Lib.hid hbn
  clear hS hJ hJx hY hbs hbn
  obtain ⟨i0, hi', hz0, hz1, hz2⟩ := info_parts infoB
  refine callsIn_of_wp Tryd.func55 rfl hF ?_ hro
  simp only [Tryd.ntmps55, List.size_toArray, List.length_cons, List.length_nil, Nat.reduceAdd, Nat.reduceSub, Array.replicate_succ, Array.replicate_zero, List.push_toArray, List.append_toArray, List.nil_append, List.cons_append]
  gi_wp2
  gi_loopw [4] (fun t wr => ∃ k : Nat, k ≤ chN len sz ∧ t = .int .i64 ((k * sz : Nat) : Int) ∧ Hid (J k wr) ∧ Hid (Same (fun i => i = bs ∨ i = bn) w wr)) (fun t _ => len + sz - (intOf t).toNat)
  case atStart => exact ⟨0, Nat.zero_le _, by simp, h0, HS0.out⟩
  case round =>
    obtain ⟨k, hk, rfl, HJk, HSk⟩ := hrel
    have hcs := (blk_cell ((HSk.out bs (.inl rfl)).trans HBS.out) 0)
    have hcn := (blk_cell ((HSk.out bn (.inr rfl)).trans HBN.out) 0)
    simp only [List.getElem?_toArray, List.getElem?_cons_zero] at hcs hcn
    have hlt := chN_lt (len := len) (k := k) h1
    by_cases hks : k * sz < len
    · have hkN := hlt.2 hks
      clear hlt
      obtain ⟨iv, hiv⟩ : ∃ iv, iv = k * sz := ⟨_, rfl⟩
      rw [← hiv] at hks ⊢
      have HIV := Lib.hid hiv
      clear hiv
      have hsuf := fun W => run_slice_lo 25 5 Tryd.underlying25 hi' hz1 A len cap iv hks hc W
      obtain ⟨rest, hrest⟩ : ∃ rest, rest = len - iv := ⟨_, rfl⟩
      have hr1 : iv + rest = len := by omega
      rw [← hrest] at hsuf
      have HRE := Lib.hid hrest
      clear hrest
      have hgo : ∀ e : Nat, 0 < e → e ≤ rest → e = min sz (len - iv) → (∀ W, (Instr.slice 25 (.slice A len cap) (some (.int .i64 (iv : Int))) (some (.int .i64 ((iv : Int) + (e : Int)))) (some (.int .i64 ((iv : Int) + (e : Int))))).run Tryd.prog W = .ok (.slice (A.map (·.add iv)) e e) W) ∧ chv A len sz k = .slice (A.map (·.add iv)) e e := fun e h4 h5 h6 => by
        constructor
        · intro W
          have h3 := run_slice3 25 5 Tryd.underlying25 hi' hz1 A len cap iv (iv + e) (by omega) (by omega) W
          rw [Nat.add_sub_cancel_left, Int.natCast_add] at h3
          exact h3
        · unfold chv
          rw [← HIV.out, ← h6]
      have HGO := Lib.hid hgo
      clear hgo
      have HSUC := Lib.hid (show (k + 1) * sz = iv + sz by rw [Nat.succ_mul, HIV.out])
      by_cases hm : sz ≤ rest
      · obtain ⟨h3, hch⟩ := HGO.out sz (by omega) hm (by have := HRE.out; omega)
        obtain ⟨fn, tmps, assign, body, hy, hR⟩ := HY.out k wr.drew hkN (HJ.out.drew HJk.out)
        rw [hch] at hy
        have HR := Lib.hid hR
        clear hch hR
        gi_wp2
        gi_region
        all_goals
          clear hsuf
          gi_wp2
          refine HR.out.mono ?_
          rintro e1 W3 (⟨rfl, hJ3, hk3⟩ | ⟨rfl, hJx3, _⟩)
          · have HS3 := Lib.hid (show Same (fun i => i = bs ∨ i = bn) w W3 from (HSk.out.trans (show Same (fun i => i = bs ∨ i = bn) wr wr.drew from fun _ _ => rfl)).trans hk3)
            have HJ3 := Lib.hid hJ3
            have hcn3 := (blk_cell ((HS3.out bn (.inr rfl)).trans HBN.out) 0)
            simp only [List.getElem?_toArray, List.getElem?_cons_zero] at hcn3
            clear hk3 hJ3 hy h3
            gi_wp2
            go_roundw
            case rel => exact ⟨k + 1, by omega, by rw [HSUC.out]; push_cast; rfl, HJ3.out, HS3.out⟩
            case measure => simp [intOf]; omega
          · gi_wp2
            refine bodyPost_ret (results_none rfl _ _ _) rfl ?_
            exact ⟨⟨_, rfl⟩, .inr ⟨k + 1, by omega, hJx3⟩⟩
      · obtain ⟨h3, hch⟩ := HGO.out rest (by omega) (Nat.le_refl _) (by have := HRE.out; omega)
        obtain ⟨fn, tmps, assign, body, hy, hR⟩ := HY.out k wr.drew hkN (HJ.out.drew HJk.out)
        rw [hch] at hy
        have HR := Lib.hid hR
        clear hch hR
        gi_wp2
        gi_region
        all_goals
          clear hsuf
          gi_wp2
          refine HR.out.mono ?_
          rintro e1 W3 (⟨rfl, hJ3, hk3⟩ | ⟨rfl, hJx3, _⟩)
          · have HS3 := Lib.hid (show Same (fun i => i = bs ∨ i = bn) w W3 from (HSk.out.trans (show Same (fun i => i = bs ∨ i = bn) wr wr.drew from fun _ _ => rfl)).trans hk3)
            have HJ3 := Lib.hid hJ3
            have hcn3 := (blk_cell ((HS3.out bn (.inr rfl)).trans HBN.out) 0)
            simp only [List.getElem?_toArray, List.getElem?_cons_zero] at hcn3
            clear hk3 hJ3 hy h3
            gi_wp2
            go_roundw
            case rel => exact ⟨k + 1, by omega, by rw [HSUC.out]; push_cast; rfl, HJ3.out, HS3.out⟩
            case measure => simp [intOf]; omega
          · gi_wp2
            refine bodyPost_ret (results_none rfl _ _ _) rfl ?_
            exact ⟨⟨_, rfl⟩, .inr ⟨k + 1, by omega, hJx3⟩⟩
    · have hkN : ¬ k < chN len sz := fun h => hks (hlt.1 h)
      have hkE : k = chN len sz := by omega
      have HK := Lib.hid hkE
      clear hlt hkE
      obtain ⟨iv, hiv⟩ : ∃ iv, iv = k * sz := ⟨_, rfl⟩
      rw [← hiv] at hks ⊢
      clear hiv
      gi_wp2
      go_end0
      exact ⟨⟨_, rfl⟩, .inl (by rw [← HK.out]; exact HJk.out)⟩
end Go.Proofs.YtadmpjikkpnjnaaDoor
