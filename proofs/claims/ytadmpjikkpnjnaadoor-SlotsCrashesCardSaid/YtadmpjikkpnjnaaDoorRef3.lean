/-
  The references of layer 1 (slabvaultref01): Get, Signed. No premise.
-/
import Derived.Test.YtadmpjikkpnjnaaDoorRef2
namespace Go.Proofs.YtadmpjikkpnjnaaDoor
open Go.RowKit Go.Proofs.YtadmpjikkpnjnaaDoorW.PrintWords

theorem rdI_cut (b : List Int) (m n j : Nat) (h : j < n) : rdI ((b.drop m).take n) j = rdI b (m + j) := by
  simp [rdI, List.getD_eq_getElem?_getD, h]

theorem u64_acc (x y : Int) (h0 : 0 ≤ x) (h1 : x < 72057594037927936) (hy : 0 ≤ y) (hy2 : y ≤ 255) : IntKind.u64.wrap (IntKind.u64.wrap (x * 256) + IntKind.u64.wrap y) = x * 256 + y := by
  simp only [IntKind.wrap_u64]
  omega

set_option maxHeartbeats 800000 in
theorem refGet_any (A : Option Addr) (c : Nat) (l : List Int) (at_ width : Int) (big : Bool) (w : World) (hr : Rd w A l) (hb : Bts l) (hl : l.length ≤ 150000000000000) (ha : -9223372036854775808 ≤ at_) (ha2 : at_ ≤ 9223372036854775807) :
    Calls Tryd.prog 35 #[.slice A l.length c, .int .i64 at_, .int .i64 width, .bool big] w fun e w' => e = .returned (.tuple #[.int .u64 (getU l at_ width big), .int .i64 (getE l at_ width)]) ∧ w = w' := by
  have HR := Lib.hid hr
  have HBt := Lib.hid hb
  clear hr hb
  by_cases h1 : width < 1
  · go_enter Tryd.func35, Tryd.ntmps35
    go_wp2_with fail
    go_ret2
    exact ⟨ret2' (by rw [getU, if_neg (by omega)]) (by rw [getE, if_neg (by omega)]), rfl⟩
  by_cases h2 : 8 < width
  · go_enter Tryd.func35, Tryd.ntmps35
    go_wp2_with fail
    go_ret2
    exact ⟨ret2' (by rw [getU, if_neg (by omega)]) (by rw [getE, if_neg (by omega)]), rfl⟩
  by_cases h3 : at_ < 0
  · go_enter Tryd.func35, Tryd.ntmps35
    go_wp2_with fail
    go_ret2
    exact ⟨ret2' (by rw [getU, if_neg (by omega)]) (by rw [getE, if_neg (by omega)]), rfl⟩
  by_cases h4 : (l.length : Int) < at_
  · go_enter Tryd.func35, Tryd.ntmps35
    go_wp2_with fail
    go_ret2
    exact ⟨ret2' (by rw [getU, if_neg (by omega)]) (by rw [getE, if_neg (by omega)]), rfl⟩
  by_cases h5 : (l.length : Int) - at_ < width
  · go_enter Tryd.func35, Tryd.ntmps35
    go_wp2_with fail
    go_ret2
    exact ⟨ret2' (by rw [getU, if_neg (by omega)]) (by rw [getE, if_pos (by omega), if_pos h5]), rfl⟩
  obtain ⟨m, rfl⟩ := Int.eq_ofNat_of_zero_le (show 0 ≤ at_ by omega)
  obtain ⟨n, rfl⟩ := Int.eq_ofNat_of_zero_le (show 0 ≤ width by omega)
  have h1n : 1 ≤ n := by omega
  have h2n : n ≤ 8 := by omega
  have h3n : m + n ≤ l.length := by omega
  obtain ⟨ad, rfl, hcc⟩ := HR.out.2.2 (by omega)
  have HC := Lib.hid hcc
  clear hcc h1 h2 h3 h4 h5
  have fin : Ending.returned (.tuple #[.int .u64 (hrn ((l.drop m).take n) n big n), .int .i64 0]) = .returned (.tuple #[.int .u64 (getU l m n big), .int .i64 (getE l m n)]) :=
    ret2' (by rw [hrn_all, getU, if_pos (by omega)]; rfl) (by rw [getE, if_pos (by omega), if_neg (by omega)])
  have FIN := Lib.hid fin
  clear fin
  have hbl : Bts ((l.drop m).take n) := (HBt.out.drop _).take _
  have HBl := Lib.hid hbl
  clear hbl
  cases big
  · go_enter Tryd.func35, Tryd.ntmps35
    go_wp2_with fail
    go_loop [10, 11] (fun u i => ∃ k : Nat, k ≤ n ∧ i = .int .i64 k ∧ u = .int .u64 (hrn ((l.drop m).take n) n false k)) (fun _ i => n - (intOf i).toNat)
    case atStart => exact ⟨0, by omega, rfl, rfl⟩
    case round =>
      obtain ⟨k, hk, rfl, rfl⟩ := hrel
      by_cases hlt : k < n
      · have hg := hrn_range HBl.out n false k
        have hp := pow_le56 k (by omega)
        have hd := HBl.out.at (n - 1 - k)
        have hc := HC.out (m + (n - 1 - k)) (by omega)
        have hs : hrn ((l.drop m).take n) n false (k + 1) = hrn ((l.drop m).take n) n false k * 256 + rdI ((l.drop m).take n) (n - 1 - k) := by
          simp only [hrn, dgt, if_false, Bool.false_eq_true]
        rw [show l.getD (m + (n - 1 - k)) 0 = rdI ((l.drop m).take n) (n - 1 - k) from (rdI_cut l m n _ (by omega)).symm] at hc
        have ha := u64_acc (hrn ((l.drop m).take n) n false k) (rdI ((l.drop m).take n) (n - 1 - k)) hg.1 (by omega) hd.1 hd.2
        generalize rdI ((l.drop m).take n) (n - 1 - k) = y at hd hc hs ha
        generalize hrn ((l.drop m).take n) n false k = x at hg hs ha
        have HS := Lib.hid hs
        clear hs
        have hc2 : w.cell? (ad.add (m + n - 1 - k)) = some (.int .u8 y) := by rw [show m + n - 1 - k = m + (n - 1 - k) from by omega]; exact hc
        go_wp2_with fail
        go_round
        case rel => exact ⟨k + 1, by omega, by go_num, by rw [HS.out]⟩
        case measure => simp [intOf]; omega
      · go_wp2_with fail
        go_ret2
        obtain rfl : k = n := by omega
        exact ⟨FIN.out, rfl⟩
  · go_enter Tryd.func35, Tryd.ntmps35
    go_wp2_with fail
    go_loop [10, 11] (fun u i => ∃ k : Nat, k ≤ n ∧ i = .int .i64 k ∧ u = .int .u64 (hrn ((l.drop m).take n) n true k)) (fun _ i => n - (intOf i).toNat)
    case atStart => exact ⟨0, by omega, rfl, rfl⟩
    case round =>
      obtain ⟨k, hk, rfl, rfl⟩ := hrel
      by_cases hlt : k < n
      · have hg := hrn_range HBl.out n true k
        have hp := pow_le56 k (by omega)
        have hd := HBl.out.at (k)
        have hc := HC.out (m + (k)) (by omega)
        have hs : hrn ((l.drop m).take n) n true (k + 1) = hrn ((l.drop m).take n) n true k * 256 + rdI ((l.drop m).take n) (k) := by
          simp only [hrn, dgt, if_true]
          rw [show n - 1 - (n - 1 - k) = k from by omega]
        rw [show l.getD (m + (k)) 0 = rdI ((l.drop m).take n) (k) from (rdI_cut l m n _ (by omega)).symm] at hc
        have ha := u64_acc (hrn ((l.drop m).take n) n true k) (rdI ((l.drop m).take n) (k)) hg.1 (by omega) hd.1 hd.2
        generalize rdI ((l.drop m).take n) (k) = y at hd hc hs ha
        generalize hrn ((l.drop m).take n) n true k = x at hg hs ha
        have HS := Lib.hid hs
        clear hs
        go_wp2_with fail
        go_round
        case rel => exact ⟨k + 1, by omega, by go_num, by rw [HS.out]⟩
        case measure => simp [intOf]; omega
      · go_wp2_with fail
        go_ret2
        obtain rfl : k = n := by omega
        exact ⟨FIN.out, rfl⟩

theorem pow_step (k : Nat) : (2 : Int) * 2 ^ k = 2 ^ (k + 1) := by rw [Int.pow_succ, Int.mul_comm]
theorem pow_le55 (k : Nat) (hk : k ≤ 55) : (2 : Int) ^ k ≤ 36028797018963968 := by
  have hp : (2 : Nat) ^ k ≤ 2 ^ 55 := Nat.pow_le_pow_right (by decide) hk
  have e : (2 : Int) ^ k = ((2 ^ k : Nat) : Int) := by norm_cast
  rw [e]
  have e2 : (2 : Nat) ^ 55 = 36028797018963968 := rfl
  omega
theorem pow_le62 (k : Nat) (hk : k ≤ 62) : 0 < (2 : Int) ^ k ∧ (2 : Int) ^ k ≤ 4611686018427387904 := by
  refine ⟨Int.pow_pos (by decide), ?_⟩
  have hp : (2 : Nat) ^ k ≤ 2 ^ 62 := Nat.pow_le_pow_right (by decide) hk
  have e : (2 : Int) ^ k = ((2 ^ k : Nat) : Int) := by norm_cast
  rw [e]
  have e2 : (2 : Nat) ^ 62 = 4611686018427387904 := rfl
  omega

end Go.Proofs.YtadmpjikkpnjnaaDoor
