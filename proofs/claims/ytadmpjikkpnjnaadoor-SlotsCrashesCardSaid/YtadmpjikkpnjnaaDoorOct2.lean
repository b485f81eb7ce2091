/-
  octet.digits in Get; octet.Put, octet.Get. No premise.
-/
import Derived.Test.YtadmpjikkpnjnaaDoorOct1
import Derived.Test.YtadmpjikkpnjnaaDoorNum
namespace Go.Proofs.YtadmpjikkpnjnaaDoor
open Go.RowKit Go.Proofs.YtadmpjikkpnjnaaDoorW.PrintWords

theorem add_block (a : Addr) (j : Nat) : (a.add j).block = a.block := by unfold Addr.add; split <;> rfl
theorem rd_rdI (l : List Int) (k : Nat) : rd l (k : Int) = rdI l k := by simp [rd, rdI]

set_option maxHeartbeats 800000 in
theorem digits_get_ (b0 big : Bool) (hb0 : Hid (b0 = big)) (l : List Int) (hb : Bts l) (ad : Addr) (c g : Nat) (w : World) (hw : l.length ≤ 8) (hr : Rd w (some ad) l) (_hc : l.length ≤ c)
    (hg : w.heap[g]? = some (.cells #[.int .u64 0] 22 (0, 0))) (hne : some ad.block ≠ some g) :
    Calls Tryd.prog 44 #[.slice (some ad) l.length c, .bool big, .func (.func 49) #[] #[.pointer (some ⟨g, 0, none⟩)]] w fun e w' =>
      e = .returned (.tuple #[]) ∧ w'.heap[g]? = some (.cells #[.int .u64 (getk l l.length b0 l.length)] 22 (0, 0)) ∧ w.grownBy w' (some g) := by
  have HG := Lib.hid hg
  have HR := Lib.hid hr
  have HBt := Lib.hid hb
  clear hg hr hb
  cases big
  all_goals
    go_enter Tryd.func44, Tryd.ntmps44
    go_wp2_with fail
    go_loopw [10] (fun i wr => ∃ k : Nat, k ≤ l.length ∧ i = .int .i64 k ∧ Hid (wr.heap[g]? = some (.cells #[.int .u64 (getk l l.length b0 k)] 22 (0, 0))) ∧ Hid (w.grownBy wr (some g))) (fun i _ => l.length - (intOf i).toNat)
    case atStart => exact ⟨0, by omega, rfl, HG.out, World.grownBy.refl _ _⟩
    case round =>
      obtain ⟨k, hk, rfl, HB, HGR⟩ := hrel
      by_cases hlt : k < l.length
      · have hbt := HBt.out.at (if b0 then l.length - 1 - k else k)
        have hgk := getk_range HBt.out l.length b0 k
        go_wp2_with fail
        refine (get1_any (getk l l.length b0 k) (rdI l (if b0 then l.length - 1 - k else k)) (8 * k) _ ⟨g, 0, none⟩ wr (by omega) (by omega) ((blk_cell HB.out 0).trans rfl) (blk_frozen HB.out 0) ?_ hbt.1 hbt.2).mono ?_
        · obtain ⟨ad', e, hc⟩ := HR.out.2.2 (by omega)
          cases e
          have hb := hb0.out
          subst hb
          refine HGR.out.cell ((hc _ ?_).trans (by simp [rdI])) (by rw [add_block]; exact hne)
          omega
        rintro e w' ⟨rfl, rfl⟩
        have ho := or_place (getk l l.length b0 k) (rdI l (if b0 then l.length - 1 - k else k)) k (by omega) hgk.1 hgk.2 hbt.1 hbt.2
        have HO := Lib.hid ho
        clear ho hbt hgk
        go_wp2_with fail
        go_roundw
        case rel =>
          refine ⟨k + 1, by omega, by go_num, ?_, ?_⟩
          · have h := blk_set HB.out 0
            show (World.drew _).heap[g]? = _
            show (World.setCell _ _ _).heap[g]? = _
            rw [h]
            rw [HO.out]
            rfl
          · exact HGR.out.trans ((set_grown _ _ _ _).trans ⟨rfl, rfl, rfl, Nat.le_refl _, fun _ _ _ => rfl⟩)
        case measure => simp [intOf]; omega
      · go_wp2_with fail
        go_end0
        have : k = l.length := by omega
        subst this
        exact ⟨rfl, HB.out, HGR.out⟩
end Go.Proofs.YtadmpjikkpnjnaaDoor
