/-
  slots.Bytes; slabvaultref04.Bytes. No premise.
-/
import Derived.Test.YtadmpjikkpnjnaaDoorSlP
import Derived.Test.YtadmpjikkpnjnaaDoorWfL
import Derived.ArgAppend
import Derived.Lib.SmallJoins
import Derived.Lib.SlBytesConst
namespace Go.Proofs.YtadmpjikkpnjnaaDoor
open Go.RowKit Go.Proofs.YtadmpjikkpnjnaaDoorW.PrintWords

/-- The fields behind the magic, one by one. -/
def rtW : Nat → Int
  | 0 => 8
  | _ => 4
def rtU (r : Rt) : Nat → Int
  | 0 => r.g
  | 2 => r.pl
  | 3 => r.sz
  | _ => 0
def rtp (r : Rt) : Nat → List Int
  | 0 => [83, 76, 65, 66]
  | k + 1 => rtp r k ++ dig (rtW k).toNat false (rtU r k)
theorem rtp_end (r : Rt) : rtp r 5 = rtX r := by
  unfold rtX
  simp only [rtp, rtW, rtU, List.append_assoc]
  rfl
theorem rtp_le (r : Rt) (k : Nat) (h : k ≤ 5) : (rtp r k).length ≤ 28 := by
  have : k = 0 ∨ k = 1 ∨ k = 2 ∨ k = 3 ∨ k = 4 ∨ k = 5 := by omega
  rcases this with rfl | rfl | rfl | rfl | rfl | rfl <;> simp [rtp, rtW, rtU, dig_length]
theorem put_field {r : Rt} (hok : rtOk r) (_hg : gOk r) (k : Nat) (hk : k < 5) (A : Option Addr) (c : Nat) (w : World) (hr : Rd w A (rtp r k)) :
    Calls Tryd.prog 29 #[.slice A (rtp r k).length c, .int .i64 (rtW k), .bool false, .int .u64 (rtU r k)] w fun e w' =>
      ∃ A' c', e = .returned (.tuple #[.slice A' (rtp r (k + 1)).length c', .int .i64 0]) ∧ Rd w' A' (rtp r (k + 1)) ∧ Below w.heap.size w w' := by
  have hl := rtp_le r k (by omega)
  have hf : putE (rtW k) (rtU r k) = 0 ∧ putL (rtp r k) (rtW k) false (rtU r k) = rtp r (k + 1) := by
    have hf4 : ∀ u : Int, 0 ≤ u → u < 4294967296 → putE 4 u = 0 ∧ putL (rtp r k) 4 false u = rtp r k ++ dig 4 false u := fun u h0 h1 => ⟨putE4 h0 h1, putL4 _ h0 h1⟩
    unfold rtOk at hok
    have : k = 0 ∨ k = 1 ∨ k = 2 ∨ k = 3 ∨ k = 4 := by omega
    rcases this with rfl | rfl | rfl | rfl | rfl
    · have : fitsB r.g 8 = true := rfl
      exact ⟨by show putE 8 r.g = 0; unfold putE; rw [if_pos (by decide), if_pos this], by show putL _ 8 false r.g = _; unfold putL; rw [if_pos ⟨by decide, by decide, this⟩]; rfl⟩
    · exact hf4 0 (by decide) (by decide)
    · exact hf4 r.pl (by omega) (by omega)
    · exact hf4 r.sz (by omega) (by omega)
    · exact hf4 0 (by decide) (by decide)
  refine (put_any A c (rtp r k) (rtW k) false (rtU r k) w hr (by omega)).mono ?_
  rintro e w' ⟨v, rfl, ho, hb⟩
  rw [hf.1]
  rw [hf.2] at ho
  obtain ⟨A', c', rfl, _, h2, _⟩ := own_split ho
  exact ⟨A', c', rfl, h2, hb⟩
theorem rd_const (w : World) (l : List Int) (hl : l.length ≤ 9223372036854775807) (C : Array Value) (hC : C = (nums .u8 l).toArray) (fr : Nat × Nat) (g : Nat) (hg : g = w.heap.size) : Rd (w.alloc (.cells C 5 fr)) (some ⟨g, 0, none⟩) l := by
  subst hg
  refine ⟨rfl, hl, fun _ => ⟨_, rfl, fun j hj => ?_⟩⟩
  have e : (⟨w.heap.size, 0, none⟩ : Addr).add j = ⟨w.heap.size, j, none⟩ := by unfold Addr.add; split <;> simp_all
  rw [e]
  unfold World.cell?
  rw [heap_alloc_new w _]
  subst hC
  simp [nums, List.getD_eq_getElem?_getD, List.getElem?_eq_getElem hj]
def BytesPost (r : Rt) (w : World) (e : Ending) (w' : World) : Prop := ∃ v, e = .returned (.tuple #[v, .int .i64 (byE r)]) ∧ Own w' w.heap.size v (byL r) ∧ Below w.heap.size w w'
theorem bad_bytes {r : Rt} (h : ¬ rtOk r) {w w' : World} (hb : Below w.heap.size w w') : BytesPost r w (.returned (.tuple #[.slice none 0 0, .int .i64 2])) w' := by
  refine ⟨.slice none 0 0, by unfold byE; rw [if_neg h], ?_, hb⟩
  unfold byL
  rw [if_neg h]
  exact World.ownsRow_nil _ _ _ _
/-- The numbers of a root within their kinds. -/
structure RtK (r : Rt) : Prop where
  g : gOk r
  p1 : -9223372036854775808 ≤ r.pl
  p2 : r.pl ≤ 9223372036854775807
  s1 : -9223372036854775808 ≤ r.sz
  s2 : r.sz ≤ 9223372036854775807
set_option maxRecDepth 100000 in
set_option maxHeartbeats 1600000 in
theorem bytes_bad (r : Rt) (w : World) (h : ¬ rtOk r) : Calls Tryd.prog 9 #[r.v] w (BytesPost r w) := by
  have hbb : ∀ w', Below w.heap.size w w' → BytesPost r w (.returned (.tuple #[.slice none 0 0, .int .i64 2])) w' := fun w' hb => bad_bytes h hb
  have HBB := Lib.hid hbb
  clear hbb
  unfold rtOk at h
  obtain ⟨g, p, s⟩ := r
  simp only at h
  show Calls _ _ #[.agg #[.int .u64 g, .int .i64 p, .int .i64 s]] _ _
  by_cases h1 : p ≤ s
  · by_cases h2 : p < 0
    · clear h
      go_enter Tryd.func9, Tryd.ntmps9
      go_wp2_with fail
      all_goals (go_ret2; exact HBB.out _ ((Below.refl _ _).alloc (Nat.le_refl _) _))
    · have h3 : 4194304 < s := by omega
      clear h
      go_enter Tryd.func9, Tryd.ntmps9
      go_wp2_with fail
      all_goals (go_ret2; exact HBB.out _ ((Below.refl _ _).alloc (Nat.le_refl _) _))
  · by_cases h2 : s < 0
    · clear h
      go_enter Tryd.func9, Tryd.ntmps9
      go_wp2_with fail
      all_goals (go_ret2; exact HBB.out _ ((Below.refl _ _).alloc (Nat.le_refl _) _))
    · have h3 : 4194304 < p := by omega
      clear h
      go_enter Tryd.func9, Tryd.ntmps9
      go_wp2_with fail
      all_goals (go_ret2; exact HBB.out _ ((Below.refl _ _).alloc (Nat.le_refl _) _))

theorem app_rd {ops : Array Oper} {rest : List Oper} {o : Oper} {a : Act} {Q : Exit → Act → World → Prop} {W : World} (hgd : o.guard = none) (s x : Operand)
    (ho : o.op = .call { callee := .builtin .append, args := #[s, x], argTypes := #[25, 25] }) (xs ys : List Int) (A B : Option Addr) (c : Nat) (hs : a.eval s = .slice A xs.length xs.length) (hx : a.eval x = .slice B ys.length c)
    (hr : Rd W A xs) (hr2 : Rd W B ys) (h0 : 0 < xs.length) (h1 : 0 < ys.length) (hl : xs.length + ys.length ≤ 100000000000000)
    (h : ∀ v1 w1, Own w1 W.heap.size v1 (xs ++ ys) → W.grownBy w1 none → wpList Tryd.prog ops Q rest (a.put o.dst v1) w1) : wpList Tryd.prog ops Q (o :: rest) a W := by
  obtain ⟨i0, hi', hz0, hz1, hz2⟩ := info_parts infoB
  obtain ⟨ad, rfl, hc⟩ := hr.2.2 h0
  obtain ⟨bd, rfl, hd⟩ := hr2.2.2 h1
  have cells : ∀ (l : List Int) (p : Addr), (∀ j, j < l.length → W.cell? (p.add j) = some (.int .u8 (l.getD j 0))) → ∀ j u, (nums .u8 l)[j]? = some u → W.cell? (p.add j) = some u := by
    intro l p hp j u hu
    have hj : j < l.length := by
      have := (List.getElem?_eq_some_iff.1 hu).1
      rwa [nums_length] at this
    rw [hp j hj, ← hu]
    simp [nums, List.getD_eq_getElem?_getD, List.getElem?_eq_getElem hj]
  obtain ⟨v', w', hr, h2, h3⟩ := run_append_arg_grows (P := Tryd.prog) W 25 o.type 5 i0 (.int .u8 0) 1 1 Tryd.underlying25 hi' hz0 hz1 hz2 rfl (by decide) ad xs.length xs.length (nums .u8 xs) (by rw [nums_length]; omega) (cells xs ad hc) bd ys.length c (nums .u8 ys) (by rw [nums_length]; omega) (cells ys bd hd) (by omega) (by simp only [maxLen]; omega) (by omega)
  refine wpList_plain hgd fun K hK => ?_
  unfold Oper.wp execOp
  simp only [ho, resolve, invoke, builtin, Sem.run_bind, Sem.run_pure, Result.andThen_ok, List.map_toArray, List.map_cons, List.map_nil, hs, hx, hr]
  refine hK _ _ (h v' w' ?_ h3)
  unfold Own
  rw [List.length_append, nums_append]
  exact h2
theorem ix0 (g p s : Int) (W : World) : (Instr.index 68 (.agg #[.int .i64 8, .int .u64 g, .int .i64 4, .int .u64 0, .int .i64 4, .int .u64 p, .int .i64 4, .int .u64 s, .int .i64 4, .int .u64 0]) (.int .i64 0)).run Tryd.prog W = .ok (.agg #[.int .i64 8, .int .u64 g]) W := by kernel_rfl
theorem ix1 (g p s : Int) (W : World) : (Instr.index 68 (.agg #[.int .i64 8, .int .u64 g, .int .i64 4, .int .u64 0, .int .i64 4, .int .u64 p, .int .i64 4, .int .u64 s, .int .i64 4, .int .u64 0]) (.int .i64 1)).run Tryd.prog W = .ok (.agg #[.int .i64 4, .int .u64 0]) W := by kernel_rfl
theorem ix2 (g p s : Int) (W : World) : (Instr.index 68 (.agg #[.int .i64 8, .int .u64 g, .int .i64 4, .int .u64 0, .int .i64 4, .int .u64 p, .int .i64 4, .int .u64 s, .int .i64 4, .int .u64 0]) (.int .i64 2)).run Tryd.prog W = .ok (.agg #[.int .i64 4, .int .u64 p]) W := by kernel_rfl
theorem ix3 (g p s : Int) (W : World) : (Instr.index 68 (.agg #[.int .i64 8, .int .u64 g, .int .i64 4, .int .u64 0, .int .i64 4, .int .u64 p, .int .i64 4, .int .u64 s, .int .i64 4, .int .u64 0]) (.int .i64 3)).run Tryd.prog W = .ok (.agg #[.int .i64 4, .int .u64 s]) W := by kernel_rfl
theorem ix4 (g p s : Int) (W : World) : (Instr.index 68 (.agg #[.int .i64 8, .int .u64 g, .int .i64 4, .int .u64 0, .int .i64 4, .int .u64 p, .int .i64 4, .int .u64 s, .int .i64 4, .int .u64 0]) (.int .i64 4)).run Tryd.prog W = .ok (.agg #[.int .i64 4, .int .u64 0]) W := by kernel_rfl
set_option maxRecDepth 100000 in
set_option maxHeartbeats 3200000 in
theorem bytes_ok (r : Rt) (w : World) (h : rtOk r) (hg : gOk r) (hT : TabAt w) : Calls Tryd.prog 9 #[r.v] w (BytesPost r w) := by
  have HOK := Lib.hid h
  have HG := Lib.hid hg
  have HT := Lib.hid hT
  have HE := Lib.hid (show byE r = 0 by unfold byE; rw [if_pos h])
  have HL := Lib.hid (show byL r = sealL (rtX r) by unfold byL; rw [if_pos h])
  have HPF := Lib.hid (fun k (hk : k < 5) A c w hr => put_field h hg k hk A c w hr)
  have kc := fun (w : World) (C : Array Value) (n c : Nat) => Lib.run_convert_bytes_const (P := Tryd.prog) w 25 5 C n c Tryd.underlying25 Tryd.underlying5
  unfold rtOk at h
  have hU : rtU r 0 = r.g ∧ rtU r 1 = 0 ∧ rtU r 2 = r.pl ∧ rtU r 3 = r.sz ∧ rtU r 4 = 0 := ⟨rfl, rfl, rfl, rfl, rfl⟩
  have HU := Lib.hid hU
  clear hT hU
  unfold gOk at hg
  obtain ⟨r', hr'⟩ : ∃ r', r' = r := ⟨r, rfl⟩
  rw [← hr'] at HOK HG HE HL HPF HU
  have HR' := Lib.hid hr'
  have hpost : BytesPost r w = BytesPost r' w := by rw [hr']
  rw [hpost]
  have hrv : r.v = .agg #[.int .u64 r.g, .int .i64 r.pl, .int .i64 r.sz] := rfl
  rw [hrv]
  have HU2 := Lib.hid (show rtU r' 0 = r.g ∧ rtU r' 1 = 0 ∧ rtU r' 2 = r.pl ∧ rtU r' 3 = r.sz ∧ rtU r' 4 = 0 by rw [hr']; exact ⟨rfl, rfl, rfl, rfl, rfl⟩)
  clear HU hr' hpost hrv
  generalize r.g = g at *
  generalize r.pl = p at *
  generalize r.sz = s at *
  have kd := fun (w : World) (C : Array Value) (n c : Nat) => Go.Joins.run_convert_bytes_const_at (P := Tryd.prog) (w.alloc (.cells #[.int .u64 g, .int .i64 p, .int .i64 s] 24)) 25 5 C n c (w.heap.size + 1) (by simp) Tryd.underlying25 Tryd.underlying5
  have HC := Lib.hid (rd_const (w.alloc (.cells #[.int .u64 g, .int .i64 p, .int .i64 s] 24)) [83, 76, 65, 66] (by decide) #[.int .u8 83, .int .u8 76, .int .u8 65, .int .u8 66] rfl (4, 5) (w.heap.size + 1) (by simp))
  have HB := Lib.hid (((Below.refl w.heap.size w).alloc (Nat.le_refl _) (.cells #[.int .u64 g, .int .i64 p, .int .i64 s] 24)).alloc (by simp) (.cells #[.int .u8 83, .int .u8 76, .int .u8 65, .int .u8 66] 5 (4, 5)))
  rcases (by omega : p < s ∨ (p ≤ s ∧ s ≤ p) ∨ s < p) with h1 | ⟨h1, h2⟩ | h1
  all_goals
    go_enter Tryd.func9, Tryd.ntmps9
    go_wp2_with fail
    go_loopw [4, 37] (fun v i wr => ∃ (k : Nat) (A : Option Addr) (c : Nat), k ≤ 5 ∧ i = .int .i64 k ∧ v = .slice A (rtp r' k).length c ∧ Hid (Rd wr A (rtp r' k)) ∧ Hid (Below w.heap.size w wr)) (fun _ i _ => 5 - (intOf i).toNat)
    case atStart => exact ⟨0, _, 4, by omega, rfl, rfl, HC.out, HB.out⟩
    case round =>
      obtain ⟨k, A, c, hk, rfl, rfl, HR, HBr⟩ := hrel
      have hk5 : k = 0 ∨ k = 1 ∨ k = 2 ∨ k = 3 ∨ k = 4 ∨ k = 5 := by omega
      obtain ⟨e0, e1, e2, e3, e4⟩ := HU2.out
      rcases hk5 with rfl | rfl | rfl | rfl | rfl | rfl
      · have hp := HPF.out 0 (by decide) A c
        rw [e0, show rtW 0 = 8 from rfl] at hp
        have HP := Lib.hid hp
        have hix := fun W => ix0 g p s W
        clear hp e0 e1 e2 e3 e4 kd kc
        go_wp2_with (go_at_call 29; refine (HP.out _ (HR.out.below ((Below.refl _ _).alloc (Nat.le_refl _) _))).mono ?_; rintro e w1 ⟨A1, c1, rfl, hr1, hb1⟩; have HR1 := Lib.hid hr1; have HB1 := Lib.hid (HBr.out.trans (((Below.refl wr.heap.size wr).alloc (Nat.le_refl _) (.cells #[.int .i64 8, .int .u64 g] 67)).trans (hb1.mono (by simp)) |>.mono HBr.out.size)); clear hr1 hb1)
        go_roundw
        case rel => exact ⟨1, A1, c1, by omega, rfl, rfl, HR1.out, HB1.out⟩
        case measure => simp [intOf]
      · have hp := HPF.out 1 (by decide) A c
        rw [e1, show rtW 1 = 4 from rfl] at hp
        have HP := Lib.hid hp
        have hix := fun W => ix1 g p s W
        clear hp e0 e1 e2 e3 e4 kd kc
        go_wp2_with (go_at_call 29; refine (HP.out _ (HR.out.below ((Below.refl _ _).alloc (Nat.le_refl _) _))).mono ?_; rintro e w1 ⟨A1, c1, rfl, hr1, hb1⟩; have HR1 := Lib.hid hr1; have HB1 := Lib.hid (HBr.out.trans (((Below.refl wr.heap.size wr).alloc (Nat.le_refl _) (.cells #[.int .i64 4, .int .u64 0] 67)).trans (hb1.mono (by simp)) |>.mono HBr.out.size)); clear hr1 hb1)
        go_roundw
        case rel => exact ⟨2, A1, c1, by omega, rfl, rfl, HR1.out, HB1.out⟩
        case measure => simp [intOf]
      · have hp := HPF.out 2 (by decide) A c
        rw [e2, show rtW 2 = 4 from rfl] at hp
        have HP := Lib.hid hp
        have hix := fun W => ix2 g p s W
        clear hp e0 e1 e2 e3 e4 kd kc
        go_wp2_with (go_at_call 29; refine (HP.out _ (HR.out.below ((Below.refl _ _).alloc (Nat.le_refl _) _))).mono ?_; rintro e w1 ⟨A1, c1, rfl, hr1, hb1⟩; have HR1 := Lib.hid hr1; have HB1 := Lib.hid (HBr.out.trans (((Below.refl wr.heap.size wr).alloc (Nat.le_refl _) (.cells #[.int .i64 4, .int .u64 p] 67)).trans (hb1.mono (by simp)) |>.mono HBr.out.size)); clear hr1 hb1)
        go_roundw
        case rel => exact ⟨3, A1, c1, by omega, rfl, rfl, HR1.out, HB1.out⟩
        case measure => simp [intOf]
      · have hp := HPF.out 3 (by decide) A c
        rw [e3, show rtW 3 = 4 from rfl] at hp
        have HP := Lib.hid hp
        have hix := fun W => ix3 g p s W
        clear hp e0 e1 e2 e3 e4 kd kc
        go_wp2_with (go_at_call 29; refine (HP.out _ (HR.out.below ((Below.refl _ _).alloc (Nat.le_refl _) _))).mono ?_; rintro e w1 ⟨A1, c1, rfl, hr1, hb1⟩; have HR1 := Lib.hid hr1; have HB1 := Lib.hid (HBr.out.trans (((Below.refl wr.heap.size wr).alloc (Nat.le_refl _) (.cells #[.int .i64 4, .int .u64 s] 67)).trans (hb1.mono (by simp)) |>.mono HBr.out.size)); clear hr1 hb1)
        go_roundw
        case rel => exact ⟨4, A1, c1, by omega, rfl, rfl, HR1.out, HB1.out⟩
        case measure => simp [intOf]
      · have hp := HPF.out 4 (by decide) A c
        rw [e4, show rtW 4 = 4 from rfl] at hp
        have HP := Lib.hid hp
        have hix := fun W => ix4 g p s W
        clear hp e0 e1 e2 e3 e4 kd kc
        go_wp2_with (go_at_call 29; refine (HP.out _ (HR.out.below ((Below.refl _ _).alloc (Nat.le_refl _) _))).mono ?_; rintro e w1 ⟨A1, c1, rfl, hr1, hb1⟩; have HR1 := Lib.hid hr1; have HB1 := Lib.hid (HBr.out.trans (((Below.refl wr.heap.size wr).alloc (Nat.le_refl _) (.cells #[.int .i64 4, .int .u64 0] 67)).trans (hb1.mono (by simp)) |>.mono HBr.out.size)); clear hr1 hb1)
        go_roundw
        case rel => exact ⟨5, A1, c1, by omega, rfl, rfl, HR1.out, HB1.out⟩
        case measure => simp [intOf]
      · have hx := rtp_end r'
        have hlen : (rtp r' 5).length = 28 := by rw [hx, rtX_length]
        have HX := Lib.hid hx
        have HLEN := Lib.hid hlen
        clear hx hlen e0 e1 e2 e3 e4 kd kc
        go_wp2_with (go_at_call 30; refine (seal_any A c (rtp r' 5) wr HR.out (by rw [HX.out]; exact rtX_bts _) (HT.out.below HBr.out (Nat.le_refl _)) (by rw [HLEN.out]; omega)).mono ?_; rintro e w1 ⟨v1, rfl, ho1, hb1⟩; rw [HX.out] at ho1; have HO1 := Lib.hid ho1; have HB1 := Lib.hid hb1; clear ho1 hb1)
        go_ret2
        refine ⟨v1, by rw [HE.out]; rfl, ?_, HBr.out.trans (HB1.out.mono HBr.out.size)⟩
        rw [HL.out]
        exact own_weaken HO1.out HBr.out.size
theorem rtBytes_any (r : Rt) (w : World) (hg : gOk r) (hT : TabAt w) : Calls Tryd.prog 9 #[r.v] w (BytesPost r w) := by
  by_cases h : rtOk r
  · exact bytes_ok r w h hg hT
  · exact bytes_bad r w h
end Go.Proofs.YtadmpjikkpnjnaaDoor
