/-
  OctetRows: the walk. No premise.
-/
import Derived.Test.YtelphnkbaeglaaaLawOctB
import Derived.Test.YtelphnkbaeglaaaRows2
import Derived.Deep.DeepCutAuto
import Derived.Deep.CutBlock
namespace Go.Proofs.Ytelphnkbaeglaaa
open Go.RowKit Go.Proofs.YtelphnkbaeglaaaW.PrintWords

def runL (x : List Int) : List Int := dig 4 true x.length ++ x
def encL (ls : List (List Int)) : List Int := (ls.map runL).flatten
theorem runL_length (x : List Int) : (runL x).length = x.length + 4 := by
  unfold runL
  rw [List.length_append, dig_length]
  omega
theorem encL_take (ls : List (List Int)) (k : Nat) (h : k < ls.length) : encL (ls.take (k + 1)) = encL (ls.take k) ++ runL (rowAt ls k) := by
  unfold encL
  rw [List.take_add_one, List.getElem?_eq_getElem h, List.map_append, List.flatten_append]
  simp [rowAt, h]
theorem encL_length (ls : List (List Int)) : (encL ls).length = ls.flatten.length + 4 * ls.length := by
  induction ls with
  | nil => rfl
  | cons x ls ih =>
    have e : encL (x :: ls) = runL x ++ encL ls := by unfold encL; rw [List.map_cons, List.flatten_cons]
    rw [e, List.length_append, ih, runL_length, List.flatten_cons, List.length_append, List.length_cons]
    omega
theorem encL_split (ls : List (List Int)) (k : Nat) (h : k < ls.length) : ∃ S, encL ls = encL (ls.take k) ++ (runL (rowAt ls k) ++ S) := by
  refine ⟨encL (ls.drop (k + 1)), ?_⟩
  rw [← List.append_assoc, ← encL_take ls k h]
  unfold encL
  rw [← List.flatten_append, ← List.map_append, List.take_append_drop]
theorem runL_bts {x : List Int} (h : Bts x) : Bts (runL x) := (dig_bts _ _ _).append h
theorem getU_run (P x S : List Int) (hx : x.length ≤ 65536) : getU (P ++ (runL x ++ S)) (P.length : Int) 4 true = (x.length : Int) ∧ getE (P ++ (runL x ++ S)) (P.length : Int) 4 = 0 := by
  have hl : (P ++ (runL x ++ S)).length = P.length + (x.length + 4 + S.length) := by rw [List.length_append, List.length_append, runL_length]
  constructor
  · unfold getU
    rw [if_pos (by rw [hl]; omega), Int.toNat_natCast, List.drop_left]
    have e : (runL x ++ S).take (4 : Int).toNat = dig 4 true x.length := by
      unfold runL
      rw [List.append_assoc]
      exact List.take_left' (dig_length ..)
    rw [e]
    show getk (dig 4 true x.length) 4 true 4 = _
    rw [getk_dig 4 true _ 4 (by decide)]
    have hp : (2 : Int) ^ (8 * 4) = 4294967296 := by decide +kernel
    rw [hp, Int.emod_eq_of_lt (by omega) (by omega)]
  · unfold getE
    rw [if_pos (by rw [hl]; omega), if_neg (by rw [hl]; omega)]
theorem gb_run (P x S : List Int) (hx : x.length ≤ 65536) : gbE (P ++ (runL x ++ S)) (P.length : Int) = 0 ∧ gbL (P ++ (runL x ++ S)) (P.length : Int) = x ∧ gbN (P ++ (runL x ++ S)) (P.length : Int) = (P.length : Int) + 4 + x.length := by
  obtain ⟨h1, h2⟩ := getU_run P x S hx
  have hl : (P ++ (runL x ++ S)).length = P.length + (x.length + 4 + S.length) := by rw [List.length_append, List.length_append, runL_length]
  have hE : gbE (P ++ (runL x ++ S)) (P.length : Int) = 0 := by
    unfold gbE
    rw [h2, if_neg (by omega), h1, if_neg (by omega), if_neg (by rw [hl]; omega)]
  refine ⟨hE, ?_, ?_⟩
  · unfold gbL
    rw [if_pos hE, h1, Int.toNat_natCast, Int.toNat_natCast]
    rw [show P.length + 4 = (P ++ dig 4 true x.length).length from by rw [List.length_append, dig_length]]
    unfold runL
    rw [← List.append_assoc, ← List.append_assoc, List.append_assoc _ x, List.drop_left, List.take_left]
  · unfold gbN
    rw [if_pos hE, h1]
theorem gb_end (B : List Int) : gbE B (B.length : Int) = 4 := by
  have h : getE B (B.length : Int) 4 = 4 := by
    unfold getE
    rw [if_pos (by omega), if_pos (by omega)]
  unfold gbE
  rw [h, if_pos (by decide)]

set_option maxHeartbeats 1600000 in
theorem octetRows_walk (A : Option Addr) (c : Nat) (ls : List (List Int)) (ptr : Nat → Option Addr) (cp : Nat → Nat) (w : World) (hr : RowsAt w A ls ptr cp) (hn : ls.length ≤ 1048576) (ht : ls.flatten.length ≤ 1048576) :
    Calls Try.prog 9 #[.slice A ls.length c] w fun e w' => e = .returned (.bool true) ∧ Below w.heap.size w w' := by
  have HR := Lib.hid hr
  have HBts := Lib.hid (show ∀ r, r < ls.length → Bts (rowAt ls r) from fun r hlt => by
    obtain ⟨a, _, h⟩ := hr (by omega)
    exact (h r hlt).2.2.2)
  have HT := Lib.hid ht
  have HLE := Lib.hid (encL_length ls)
  have HRL := Lib.hid (fun k (h : k < ls.length) => rowAt_le ls k h)
  have HEL := Lib.hid (fun k => encL_length (ls.take k))
  have HFL := Lib.hid (fun k => flatten_take_le ls k)
  clear hr ht
  go_enter Try.func9, Try.ntmps9
  go_wp2_with fail
  go_loopw [3, 4] (fun v i wr => ∃ k : Nat, k ≤ ls.length ∧ i = .int .i64 k ∧ Hid (Own wr w.heap.size v (encL (ls.take k))) ∧ Hid (Below w.heap.size w wr) ∧ Hid (∀ r, r < k → (rowAt ls r).length ≤ 65536)) (fun _ i _ => ls.length - (intOf i).toNat)
  case atStart => exact ⟨0, by omega, rfl, by rw [List.take_zero]; exact World.ownsRow_nil _ _ _ _, Below.refl _ _, fun r hr => absurd hr (by omega)⟩
  case round =>
    obtain ⟨k, hk, rfl, HO, HB, HS⟩ := hrel
    by_cases hlt : k < ls.length
    · obtain ⟨a, rfl, hrow⟩ := HR.out (by omega)
      obtain ⟨_, _, hcp, hbt⟩ := hrow k hlt
      have hc1 : ∀ W, Below w.heap.size w W → W.cell? (a.add k) = some (.slice (ptr k) (rowAt ls k).length (cp k)) ∧ Rd W (ptr k) (rowAt ls k) := fun W hW => by
        obtain ⟨a', e, h⟩ := HR.out.below hW (by omega)
        injection e with e
        subst e
        exact ⟨(h k hlt).1, (h k hlt).2.1⟩
      have hle := HRL.out k hlt
      have hcat := encL_take ls k hlt
      have hel := HEL.out k
      have hfl := HFL.out k
      have ht := HT.out
      rw [List.length_take, Nat.min_eq_left (by omega)] at hel
      have hcl : (encL (ls.take k)).length ≤ 5242880 := by omega
      have hrl : (rowAt ls k).length ≤ 1048576 := by omega
      clear hel hfl ht hle
      generalize hrw : rowAt ls k = row at hcp hbt hc1 hcat hrl
      have HRW := Lib.hid hrw
      have HC1 := Lib.hid hc1
      have HCAT := Lib.hid hcat
      have HBR := Lib.hid hbt
      have hcell := (hc1 _ HB.out).1
      clear hrow hc1 hcat hbt hrw
      obtain ⟨A', c', rfl, hrd⟩ := own_reads HO.out
      have HRD := Lib.hid (show Rd _ A' (encL (ls.take k)) from hrd)
      clear hrd
      generalize encL (ls.take k) = cur at HO HCAT HRD hcl ⊢
      have hs0 := HB.out.size
      by_cases hbig : row.length ≤ 65536
      · have hpe : pbE row = 0 := by unfold pbE; rw [if_pos hbig]
        have hpl : pbL cur row = cur ++ runL row := by unfold pbL runL; rw [if_pos hbig, List.append_assoc]
        have HPE := Lib.hid hpe
        have HPL := Lib.hid hpl
        clear hpe hpl
        go_wp2_with (go_at_call 22; refine (putbytes_any A' (ptr k) c' (cp k) cur row _ HRD.out (HC1.out _ HB.out).2 (by omega) (by omega)).mono ?_; rintro e w2 ⟨v2, rfl, ho2, hb2⟩; rw [HPE.out]; rw [HPL.out] at ho2; have HO2 := Lib.hid (own_weaken ho2 hs0); have HB2 := Lib.hid (HB.out.trans (hb2.mono hs0)); clear ho2 hb2)
        go_roundw
        case rel =>
          refine ⟨k + 1, by omega, by push_cast; rfl, ?_, HB2.out, fun r hr => ?_⟩
          · rw [HCAT.out]
            exact HO2.out
          · by_cases h : r = k
            · rw [h, HRW.out]; exact hbig
            · exact HS.out r (by omega)
        case measure => simp [intOf]; omega
      · have hpe : pbE row = 3 := by unfold pbE; rw [if_neg hbig]
        have HPE := Lib.hid hpe
        have hbig2 : (65536 : Int) < (row.length : Int) := by omega
        clear hpe hbig
        go_wp2_with (go_at_call 22; refine (putbytes_any A' (ptr k) c' (cp k) cur row _ HRD.out (HC1.out _ HB.out).2 (by omega) (by omega)).mono ?_; rintro e w2 ⟨v2, rfl, ho2, hb2⟩; rw [HPE.out]; have HB2 := Lib.hid (HB.out.trans (hb2.mono hs0)); have hcell2 := (HC1.out _ HB2.out).1; clear ho2 hb2)
        go_ret
        exact ⟨rfl, HB2.out⟩
    · have hkl : k = ls.length := by omega
      subst hkl
      rw [List.take_length] at HO
      have hbl : (encL ls).length ≤ 5242880 := by have := HLE.out; have := HT.out; omega
      obtain ⟨A', c', rfl, hrd⟩ := own_reads HO.out
      have hcl := own_le HO.out
      have hbb : Bts (encL ls) := by
        unfold encL
        intro x hx
        obtain ⟨l, hl, hxl⟩ := List.mem_flatten.1 hx
        obtain ⟨y, hy, rfl⟩ := List.mem_map.1 hl
        obtain ⟨i, hi, rfl⟩ := List.getElem_of_mem hy
        have := HBts.out i hi
        unfold rowAt at this
        rw [List.getD_eq_getElem?_getD, List.getElem?_eq_getElem hi] at this
        exact runL_bts this x hxl
      have hstep : ∀ j, j < ls.length → gbE (encL ls) ((encL (ls.take j)).length : Int) = 0 ∧ gbL (encL ls) ((encL (ls.take j)).length : Int) = rowAt ls j ∧ gbN (encL ls) ((encL (ls.take j)).length : Int) = ((encL (ls.take j)).length : Int) + 4 + (rowAt ls j).length := fun j hj => by
        obtain ⟨S, hS⟩ := encL_split ls j hj
        have := gb_run (encL (ls.take j)) (rowAt ls j) S (HS.out j hj)
        rw [← hS] at this
        exact this
      obtain ⟨P, hP0, hPn, hPs, hPl⟩ : ∃ P : Nat → Nat, P 0 = 0 ∧ P ls.length = (encL ls).length ∧ (∀ j, j < ls.length → P (j + 1) = P j + 4 + (rowAt ls j).length ∧ gbE (encL ls) (P j : Int) = 0 ∧ gbL (encL ls) (P j : Int) = rowAt ls j ∧ gbN (encL ls) (P j : Int) = (P j : Int) + 4 + (rowAt ls j).length) ∧ ∀ j, P j ≤ 5242880 := by
        refine ⟨fun j => (encL (ls.take j)).length, rfl, by show (encL (ls.take ls.length)).length = _; rw [List.take_length], fun j hj => ⟨?_, hstep j hj⟩, fun j => ?_⟩
        · show (encL (ls.take (j + 1))).length = (encL (ls.take j)).length + 4 + _
          rw [encL_take ls j hj, List.length_append, runL_length]
          omega
        · show (encL (ls.take j)).length ≤ _
          have := HEL.out j
          have := HFL.out j
          have := HT.out
          rw [List.length_take] at *
          omega
      have hend := gb_end (encL ls)
      have HRD := Lib.hid (show Rd wr A' (encL ls) from hrd)
      have HBB := Lib.hid hbb
      have HPN := Lib.hid hPn
      have HPS := Lib.hid hPs
      have HPL := Lib.hid hPl
      have HEND := Lib.hid hend
      have hs0 := HB.out.size
      clear hrd hbb hPn hPs hPl hend hstep HEL HFL HLE HS
      generalize hB : encL ls = B at HO hbl hcl HRD HBB HPN HPS HEND ⊢
      clear hB
      have HP0 := Lib.hid hP0
      clear hP0
      go_wp2_with fail
      go_loopw [7, 8] (fun at_ i wl => ∃ j : Nat, j ≤ ls.length ∧ i = .int .i64 j ∧ at_ = .int .i64 (P j) ∧ Hid (Below wr.heap.size wr wl)) (fun _ i _ => ls.length - (intOf i).toNat)
      case atStart => exact ⟨0, by omega, rfl, by rw [HP0.out]; rfl, Below.refl _ _⟩
      case round =>
        obtain ⟨j, hj, rfl, rfl, HL⟩ := hrel
        by_cases hjl : j < ls.length
        · obtain ⟨a, rfl, hrow⟩ := HR.out (by omega)
          have hc1 : ∀ W, Below w.heap.size w W → W.cell? (a.add j) = some (.slice (ptr j) (rowAt ls j).length (cp j)) ∧ Rd W (ptr j) (rowAt ls j) := fun W hW => by
            obtain ⟨a', e, h⟩ := HR.out.below hW (by omega)
            injection e with e
            subst e
            exact ⟨(h j hjl).1, (h j hjl).2.1⟩
          obtain ⟨hp1, hge, hgl, hgn⟩ := HPS.out j hjl
          have hpl := HPL.out j
          have hrl : (rowAt ls j).length ≤ 1048576 := by have := HRL.out j hjl; have := HT.out; omega
          generalize rowAt ls j = row at hc1 hp1 hgl hgn hrl
          have HC1 := Lib.hid hc1
          have HP1 := Lib.hid hp1
          have HGE := Lib.hid hge
          have HGL := Lib.hid hgl
          have HGN := Lib.hid hgn
          clear hrow hc1 hp1 hge hgl hgn
          go_wp2_with fail
          refine (getbytes_any A' c' B (P j) _ (HRD.out.below HL.out) HBB.out hcl (by omega) (by omega) (by omega)).mono ?_
          rintro e w2 ⟨v2, rfl, ho2, hb2⟩
          rw [HGN.out, HGE.out]
          rw [HGL.out] at ho2
          have HL2 := Lib.hid (HL.out.trans (hb2.mono HL.out.size))
          have hW := HB.out.trans (HL2.out.mono hs0)
          have hcell := (HC1.out w2 hW).1
          have hcv := fun m => own_strN ho2 m
          have hcr : ∀ m, (convert 22 9 (.slice (ptr j) row.length (cp j))).run Try.prog (w2.drewN m) = .ok (.string (strOfNums row)) (w2.drewN m) := fun m =>
            string_of_reads Try.underlying22 Try.underlying5 Try.underlying9 (show ReadsInt (w2.drewN m) .u8 (ptr j) row.length row from (HC1.out w2 hW).2)
          have hz : (strOfNums row).size ≤ 9223372036854775807 := by rw [strOfNums_size]; omega
          clear ho2 hb2 hW
          go_wp2_with fail
          go_quiet (fail)
          go_wp2_with fail
          go_roundw
          case rel =>
            refine ⟨j + 1, by omega, by push_cast; rfl, ?_, pw_below_drewN HL2.out _⟩
            rw [HP1.out]
            push_cast
            rfl
          case measure => simp [intOf]; omega
        · have hjl2 : j = ls.length := by omega
          subst hjl2
          have hpn := HPN.out
          rw [hpn]
          go_wp2_with fail
          refine (getbytes_any A' c' B (B.length : Int) _ (HRD.out.below HL.out) HBB.out hcl (by omega) (by omega) (by omega)).mono ?_
          rintro e w2 ⟨v2, rfl, ho2, hb2⟩
          rw [HEND.out]
          have HL2 := Lib.hid (HB.out.trans ((HL.out.trans (hb2.mono HL.out.size)).mono hs0))
          clear ho2 hb2
          go_wp2_with (go_at_call 15; refine (lives01 _).mono ?_; rintro e w8 ⟨rfl, hb8⟩)
          go_ret
          exact ⟨rfl, HL2.out.trans (hb8.mono HL2.out.size)⟩
end Go.Proofs.Ytelphnkbaeglaaa
