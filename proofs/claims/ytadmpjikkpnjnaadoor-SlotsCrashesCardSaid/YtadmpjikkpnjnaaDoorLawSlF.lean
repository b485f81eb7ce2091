/-
  SlotsCrashes: the walk. No premise.
-/
import Derived.Test.YtadmpjikkpnjnaaDoorCrQ
import Derived.Test.YtadmpjikkpnjnaaDoorLawSlD
import Derived.Test.YtadmpjikkpnjnaaDoorRtR
import Derived.Laws.Bits128
namespace Go.Proofs.YtadmpjikkpnjnaaDoor
open Go.RowKit Go.Shelf Go.Proofs.YtadmpjikkpnjnaaDoorW.PrintWords

theorem i64_and22 (n : Int) : bits .and .i64 n 4194303 = n % 4194304 := by
  have h127 : (BitVec.ofInt 64 4194303).toNat = 2 ^ 22 - 1 := by decide
  have key : (BitVec.ofInt 64 n &&& BitVec.ofInt 64 4194303).toNat = (n % ((2 ^ 64 : Nat) : Int)).toNat % 2 ^ 22 := by
    rw [BitVec.toNat_and, BitVec.toNat_ofInt, h127, Nat.and_two_pow_sub_one_eq_mod]
  show IntKind.i64.wrap ((BitVec.ofInt 64 n &&& BitVec.ofInt 64 4194303).toNat : Nat) = n % 4194304
  rw [key, IntKind.wrap_i64]
  omega
theorem fld_at {w : World} {a : Addr} {j k : Nat} {v : Value} (hk : k ≠ 0) (h : w.cell? (a.add (j + k)) = some v) : w.cell? ((a.add j).add k) = some v ∧ w.cell? ⟨(a.add j).block, (a.add j).off + k, none⟩ = some v := by
  have e : (a.add j).add k = a.add (j + k) := Go.Proofs.YtadmpjikkpnjnaaDoorW.PrintWords.add_add a j k
  have e2 : (⟨(a.add j).block, (a.add j).off + k, none⟩ : Addr) = (a.add j).add k := by simp [Addr.add, hk]
  rw [e2, e]
  exact ⟨h, h⟩
/-- A box with a root, nobody's. -/
structure Bx (W : World) (o : Nat → Nat) (b : Nat) (r : Rt) : Prop where
  blk : W.heap[b]? = some (.cells #[.int .u64 r.g, .int .i64 r.pl, .int .i64 r.sz] 24 (0, 0))
  tag : o b = 0
theorem Bx.below {W W' : World} {o : Nat → Nat} {b : Nat} {r : Rt} (h : Bx W o b r) (hb : Below W.heap.size W W') : Bx W' o b r := ⟨(hb.block _ (Array.getElem?_eq_some_iff.1 h.blk).1).trans h.blk, h.tag⟩
theorem Bx.upd {W W' : World} {o o' : Nat → Nat} {b i : Nat} {r : Rt} (h : Bx W o b r) (u : Upd o o' i W W') (hi : i ≠ 0) : Bx W' o' b r :=
  ⟨u.keep0 hi h.tag h.blk, (u.old _ (Array.getElem?_eq_some_iff.1 h.blk).1).trans h.tag⟩
theorem Bx.lt {W : World} {o : Nat → Nat} {b : Nat} {r : Rt} (h : Bx W o b r) : b < W.heap.size := (Array.getElem?_eq_some_iff.1 h.blk).1
/-- The file, in a world that has grown out of another one. -/
structure Crw (w W : World) (o : Nat → Nat) (p : Nat) (F : FM) : Prop where
  f : FileA W o 1 p F
  fr : Fr o W
  lo : ∀ j, j < w.heap.size → o j = 0
  bel : Below w.heap.size w W
theorem Crw.below {w W W' : World} {o : Nat → Nat} {p : Nat} {F : FM} (h : Crw w W o p F) (hb : Below W.heap.size W W') : Crw w W' o p F :=
  ⟨h.f.below hb, h.fr.mono hb.size, h.lo, h.bel.trans (hb.mono h.bel.size)⟩
theorem Crw.upd3 {w W W' : World} {o o' : Nat → Nat} {p : Nat} {F : FM} (h : Crw w W o p F) (u : Upd o o' 3 W W') : Crw w W' o' p F :=
  ⟨h.f.upd u (by decide) (by decide), u.fr, fun j hj => (u.old j (Nat.lt_of_lt_of_le hj h.bel.size)).trans (h.lo j hj), h.bel.trans (u.below (by decide) h.bel.size h.lo)⟩
theorem Crw.upd1 {w W W' : World} {o o' : Nat → Nat} {p : Nat} {F F' : FM} (h : Crw w W o p F) (u : Upd o o' 1 W W') (hf : FileA W' o' 1 p F') : Crw w W' o' p F' :=
  ⟨hf, u.fr, fun j hj => (u.old j (Nat.lt_of_lt_of_le hj h.bel.size)).trans (h.lo j hj), h.bel.trans (u.below (by decide) h.bel.size h.lo)⟩
theorem Crw.new {w W : World} {o : Nat → Nat} {p : Nat} {F : FM} (h : Crw w W o p F) (r : Rt) : Bx (W.alloc (.cells #[.int .u64 r.g, .int .i64 r.pl, .int .i64 r.sz] 24)) o W.heap.size r := ⟨heap_alloc_new W _, h.fr _ (Nat.le_refl _)⟩
theorem Crw.set3 {w W : World} {o : Nat → Nat} {p b : Nat} {F : FM} {r : Rt} (h : Crw w W o p F) (hx : Bx W o b r) (hb : w.heap.size ≤ b) (s : Rt) :
    Crw w (((W.setCell ⟨b, 0, none⟩ (.int .u64 s.g)).setCell ⟨b, 1, none⟩ (.int .i64 s.pl)).setCell ⟨b, 2, none⟩ (.int .i64 s.sz)) o p F ∧ Bx (((W.setCell ⟨b, 0, none⟩ (.int .u64 s.g)).setCell ⟨b, 1, none⟩ (.int .i64 s.pl)).setCell ⟨b, 2, none⟩ (.int .i64 s.sz)) o b s := by
  have hs : W.heap.size = (((W.setCell ⟨b, 0, none⟩ (.int .u64 s.g)).setCell ⟨b, 1, none⟩ (.int .i64 s.pl)).setCell ⟨b, 2, none⟩ (.int .i64 s.sz)).heap.size := by simp [World.setCell]
  refine ⟨⟨h.f.keep (fun k hk ho => ⟨far3 (fun e => ?_), rfl⟩) (by rw [← hs]; exact Nat.le_refl _), fun k hk => h.fr k (by rw [hs]; exact hk), h.lo, below3 h.bel hb⟩, ⟨Go.Proofs.YtadmpjikkpnjnaaDoor.set3 hx.blk, hx.tag⟩⟩
  subst e
  have := hx.tag
  rcases ho with h1 | h1 <;> omega
theorem Bx.far {W : World} {o : Nat → Nat} {b q : Nat} {r : Rt} {x y z : Value} (h : Bx W o q r) (hq : q ≠ b) : Bx (((W.setCell ⟨b, 0, none⟩ x).setCell ⟨b, 1, none⟩ y).setCell ⟨b, 2, none⟩ z) o q r := ⟨(far3 hq).trans h.blk, h.tag⟩
theorem ne_is (r s : Rt) (b : Bool) (h : (!r.eqv s) = b) (W : World) : (binOp .neq 24 (.agg #[.int .u64 r.g, .int .i64 r.pl, .int .i64 r.sz]) (.agg #[.int .u64 s.g, .int .i64 s.pl, .int .i64 s.sz])).run Tryd.prog W = .ok (.bool b) W := by
  rw [← h]
  exact ne_root r s W
theorem last_cases {k : Nat} {F : FM} {last : Rt} (h : CrF k F last) : (k = 0 ∧ last = Rt.zero) ∨ (1 ≤ k ∧ last.g = k) := by
  rcases h.st with ⟨h1, _, h3⟩ | ⟨h1, _, h3, _⟩
  · exact .inl ⟨h1, h3⟩
  · exact .inr ⟨h1, h3⟩
def nxt (k : Nat) (r : Rt) : Rt := ⟨(k : Int) + 1, r.pl % 4194304, r.sz % 4194304⟩
theorem nxt_g (k : Nat) (hk : k < 30) (r : Rt) : RtG (nxt k r) := by
  refine ⟨?_, ?_, ?_⟩
  · unfold rtOk nxt; simp only; omega
  · unfold nxt; simp only; omega
  · unfold nxt; simp only; omega
theorem six_at (n : Int) : ∃ (t : Int) (m : Nat), n.tmod 6 = t ∧ -6 < t ∧ t < 6 ∧ (t + 6).tmod 6 = (m : Int) ∧ (t + 6) % 6 = (m : Int) ∧ m < 6 := by
  have a1 : n.tmod 6 < 6 := Int.tmod_lt_of_pos _ (by decide)
  have a2 : -6 < n.tmod 6 := by
    have := Int.tmod_lt_of_pos (-n) (show (0 : Int) < 6 by decide)
    rw [Int.neg_tmod] at this
    omega
  generalize n.tmod 6 = t at *
  obtain ⟨m, hm⟩ := Int.eq_ofNat_of_zero_le (Int.emod_nonneg (t + 6) (show (6 : Int) ≠ 0 by decide))
  exact ⟨t, m, rfl, a2, a1, by rw [Int.tmod_eq_emod_of_nonneg (by omega)]; exact hm, hm, by omega⟩
set_option maxRecDepth 100000 in
set_option maxHeartbeats 3200000 in
theorem slotsCrashes_walk (A : Option Addr) (c : Nat) (l : List Rt) (n : Int) (w : World) (hT : TabAt w) (hr : Rts w A l) (hwn : (Lit.int .i64 n).wf = true) :
    Calls Tryd.prog 8 #[.slice A l.length c, .int .i64 n] w fun e w' => e = .returned (.bool true) ∧ Below w.heap.size w w' := by
  have HT := Lib.hid hT
  have HRS := Lib.hid hr
  have hll := hr.1
  obtain ⟨hn1, hn2⟩ := wf_i64' hwn
  obtain ⟨t, m, ht, ht1, ht2, hm, hm2, hm3⟩ := six_at n
  have HFR0 := Lib.hid (show Fr (fun _ => 0) w from fun _ _ => rfl)
  clear hT hr hwn
  go_enter Tryd.func8, Tryd.ntmps8
  go_wp2_with fail
  refine (new_any (fun _ => 0) 1 64 w HFR0.out (by unfold ofB; simp)).mono ?_
  rintro e w1 ⟨p, o1, rfl, hf1, hu1, hb1, _⟩
  have hc1 : Crw w w1 o1 p (mkF [] 64) := ⟨hf1, hu1.fr, fun j hj => hu1.old j hj, hb1⟩
  have hba : Below w1.heap.size w1 (w1.alloc (.cells #[.int .u64 0, .int .i64 0, .int .i64 0] 24)) := (Below.refl _ _).alloc (Nat.le_refl _) _
  have HC2 := Lib.hid (hc1.below hba)
  have HX2 := Lib.hid (hc1.new Rt.zero)
  have HS1 := Lib.hid hb1.size
  clear hf1 hu1 hb1 hc1 hba
  go_wp2_with fail
  have hx2 : Bx (w1.alloc (.cells #[.int .u64 0, .int .i64 0, .int .i64 0] 24)) o1 w1.heap.size Rt.zero := HX2.out
  have HX2' := Lib.hid hx2
  clear hx2
  go_loopw [7] (fun i wr => ∃ (k : Nat) (o : Nat → Nat) (F : FM) (last : Rt), k ≤ l.length ∧ i = .int .i64 k ∧ Hid (CrF k F last) ∧ Hid (Crw w wr o p F) ∧ Hid (Bx wr o w1.heap.size last)) (fun i _ => l.length - (intOf i).toNat)
  case atStart => exact ⟨0, o1, mkF [] 64, Rt.zero, by omega, rfl, crF_zero, HC2.out, HX2'.out⟩
  case round =>
    obtain ⟨k, o, F, last, hk, rfl, HCF, HC, HX⟩ := hrel
    by_cases hgo : k < l.length ∧ k < 30
    · obtain ⟨hlt, hlt2⟩ := hgo
      obtain ⟨ad, rfl, hcs⟩ := (HRS.out.below HC.out.bel).2.2 (by omega)
      obtain ⟨q0, q1, q2⟩ := hcs k hlt
      obtain ⟨r, hr⟩ : ∃ r, r = l[k] := ⟨_, rfl⟩
      rw [← hr] at q0 q1 q2
      obtain ⟨f1, g1⟩ := fld_at (by decide) q1
      obtain ⟨f2, g2⟩ := fld_at (by decide) q2
      have hkk := HRS.out.2.1 r (by rw [hr]; exact List.getElem_mem hlt)
      have HKK := Lib.hid hkk
      have ha1 := i64_and22 r.pl
      have ha2 := i64_and22 r.sz
      have g1' : ∀ ob, (wr.alloc ob).cell? ⟨(ad.add (k * 3)).block, (ad.add (k * 3)).off + 1, none⟩ = some (.int .i64 r.pl) := fun ob => pw_cell_below ((Below.refl wr.heap.size wr).alloc (Nat.le_refl _) ob) g1
      have g2' : ∀ ob, (wr.alloc ob).cell? ⟨(ad.add (k * 3)).block, (ad.add (k * 3)).off + 2, none⟩ = some (.int .i64 r.sz) := fun ob => pw_cell_below ((Below.refl wr.heap.size wr).alloc (Nat.le_refl _) ob) g2
      clear hcs q0 q1 q2 f1 f2 hr hkk
      go_wp2_with fail
      go_region
      go_wp2_with fail
      have hcA := HC.out.below (((Below.refl wr.heap.size wr).alloc (Nat.le_refl _) (.cells #[.int .u64 (nxt k r).g, .int .i64 (nxt k r).pl, .int .i64 (nxt k r).sz] 24)).drew)
      have hxA := HX.out.below (((Below.refl wr.heap.size wr).alloc (Nat.le_refl _) (.cells #[.int .u64 (nxt k r).g, .int .i64 (nxt k r).pl, .int .i64 (nxt k r).sz] 24)).drew)
      have hnA : Bx (wr.alloc (.cells #[.int .u64 (nxt k r).g, .int .i64 (nxt k r).pl, .int .i64 (nxt k r).sz] 24)).drew o wr.heap.size (nxt k r) := ⟨(HC.out.new (nxt k r)).blk, (HC.out.new (nxt k r)).tag⟩
      have HN := Lib.hid (nxt_g k hlt2 r)
      have HNG := Lib.hid (show (nxt k r).g = (k : Int) + 1 from rfl)
      have e1 : (k : Int) + 1 = (nxt k r).g := rfl
      have e2 : r.pl % 4194304 = (nxt k r).pl := rfl
      have e3 : r.sz % 4194304 = (nxt k r).sz := rfl
      rw [e1, e2, e3]
      clear e1 e2 e3 g1 g2 g1' g2' ha1 ha2
      generalize nxt k r = nx at *
      generalize (wr.alloc (.cells #[.int .u64 nx.g, .int .i64 nx.pl, .int .i64 nx.sz] 24)).drew = w2 at hcA hxA hnA ⊢
      have HCA := Lib.hid hcA
      have HXA := Lib.hid hxA
      have HNA := Lib.hid hnA
      clear hcA hxA hnA
      refine (copy_any o 1 3 p F w2 HCA.out.f HCA.out.fr (by have := HCF.out.rl; omega) HCF.out.re (by have := HCF.out.ok.len; have := HCF.out.most; omega)).mono ?_
      rintro e w3 ⟨p3, o3, rfl, hg3, hu3, hb3, _⟩
      have HC3 := Lib.hid (HCA.out.upd3 hu3)
      have HX3 := Lib.hid (HXA.out.upd hu3 (by decide))
      have HN3 := Lib.hid (HNA.out.upd hu3 (by decide))
      have HG3 := Lib.hid hg3
      clear hg3 hu3 hb3
      go_wp2_with fail
      refine (cut_any o3 3 (by decide) (by decide) p3 F m w3 HG3.out HC3.out.fr).mono ?_
      rintro e w4 ⟨rfl, hu4, hg4⟩
      rw [show ctE (m : Int) = 0 from by unfold ctE; rw [if_neg (by omega)]]
      have hctf : ctF F (m : Int) = { F with left := (m : Int) } := by unfold ctF; rw [if_neg (by omega)]
      have hk1 := HCF.out.ok.ctF (m : Int) (by omega)
      rw [hctf] at hg4 hk1
      have hcp := crash_put HCF.out.off HCF.out.most HCF.out.st hlt2 HN.out HNG.out m
      have hrl1 : ({ F with left := (m : Int) } : FM).raws.length ≤ 900000000 := by have := HCF.out.rl; show F.raws.length ≤ _; omega
      obtain ⟨G1, hG1⟩ : ∃ G1 : FM, G1 = { F with left := (m : Int) } := ⟨_, rfl⟩
      rw [← hG1] at hg4 hk1 hcp hrl1
      have HK1 := Lib.hid hk1
      have HCP := Lib.hid hcp
      have HRL1 := Lib.hid hrl1
      have HC4 := Lib.hid (HC3.out.upd3 hu4)
      have HX4 := Lib.hid (HX3.out.upd hu4 (by decide))
      have HN4 := Lib.hid (HN3.out.upd hu4 (by decide))
      have HG4 := Lib.hid hg4
      clear hg4 hu4 hctf hk1 hcp hrl1 hG1
      obtain ⟨⟨x0, x1, x2⟩, _⟩ := rt_cells HN4.out.blk
      go_wp2_with fail
      rw [show (#[Value.pointer (some ⟨p3, 0, none⟩), .agg #[.int .u64 nx.g, .int .i64 nx.pl, .int .i64 nx.sz]] : Array Value) = #[Value.pointer (some ⟨p3, 0, none⟩), nx.v] from rfl]
      refine (slPut_any o3 3 (by decide) (by decide) p3 G1 nx w4 HG4.out HC4.out.fr HK1.out HRL1.out HN.out.gOk (HT.out.below HC4.out.bel (Nat.le_refl _))).mono ?_
      rintro e w5 ⟨o5, rfl, hu5, hg5⟩
      have HC5 := Lib.hid (HC4.out.upd3 hu5)
      have HX5 := Lib.hid (HX4.out.upd hu5 (by decide))
      have HN5 := Lib.hid (HN4.out.upd hu5 (by decide))
      have HG5 := Lib.hid hg5
      have HK2 := Lib.hid (HK1.out.spF nx)
      clear hg5 hu5 x0 x1 x2
      obtain ⟨E, hE⟩ : ∃ E, E = spE G1 nx := ⟨_, rfl⟩
      obtain ⟨G2, hG2⟩ : ∃ G2, G2 = spF G1 nx := ⟨_, rfl⟩
      rw [← hE]
      rw [← hE, ← hG2] at HCP
      rw [← hG2] at HG5 HK2
      clear hE hG2
      go_wp2_with fail
      refine (start_any o5 3 (by decide) (by decide) p3 G2 w5 HG5.out HC5.out.fr).mono ?_
      rintro e w6 ⟨rfl, hu6, hg6⟩
      have HC6 := Lib.hid (HC5.out.upd3 hu6)
      have HX6 := Lib.hid (HX5.out.upd hu6 (by decide))
      have HN6 := Lib.hid (HN5.out.upd hu6 (by decide))
      have HG6 := Lib.hid hg6
      clear hg6 hu6
      go_wp2_with fail
      refine (best_any o5 3 p3 { G2 with off := false } w6 HG6.out (by show G2.b.length ≤ _; have := HK2.out.len; have := HK2.out.most; omega) rfl HK2.out.bts (HT.out.below HC6.out.bel (Nat.le_refl _))).mono ?_
      rintro e w7 ⟨rfl, hb7⟩
      rw [show ({ G2 with off := false } : FM).b = G2.b from rfl]
      have HC7 := Lib.hid (HC6.out.below hb7)
      have HX7 := Lib.hid (HX6.out.below hb7)
      have HN7 := Lib.hid (HN6.out.below hb7)
      clear hb7
      obtain ⟨rr, hrr⟩ : ∃ rr, rr = bsR G2.b := ⟨_, rfl⟩
      obtain ⟨is, his⟩ : ∃ is, is = bsIs G2.b := ⟨_, rfl⟩
      rw [← hrr, ← his, show rr.v = .agg #[.int .u64 rr.g, .int .i64 rr.pl, .int .i64 rr.sz] from rfl]
      rw [← hrr, ← his] at HCP
      clear hrr his
      have HC8 := Lib.hid (HC7.out.below ((Below.refl w7.heap.size w7).alloc (Nat.le_refl _) (.cells #[.int .u64 rr.g, .int .i64 rr.pl, .int .i64 rr.sz] 24)))
      have HX8 := Lib.hid (HX7.out.below ((Below.refl w7.heap.size w7).alloc (Nat.le_refl _) (.cells #[.int .u64 rr.g, .int .i64 rr.pl, .int .i64 rr.sz] 24)))
      have HN8 := Lib.hid (HN7.out.below ((Below.refl w7.heap.size w7).alloc (Nat.le_refl _) (.cells #[.int .u64 rr.g, .int .i64 rr.pl, .int .i64 rr.sz] 24)))
      have HR8 := Lib.hid (HC7.out.new rr)
      have HD := Lib.hid (show w1.heap.size < wr.heap.size ∧ wr.heap.size < w7.heap.size from ⟨HX.out.lt, HN7.out.lt⟩)
      have hfin : ∃ b0 b1 b2 : Bool, ((!rr.eqv Rt.zero) = b0 ∧ (!rr.eqv last) = b1 ∧ (!rr.eqv nx) = b2) ∧ is = b0 ∧ ((E = 6 ∧ b1 = false) ∨ (E = 0 ∧ b1 = true ∧ b2 = false)) := by
        refine ⟨_, _, _, ⟨rfl, rfl, rfl⟩, ?_⟩
        rcases HCP.out with ⟨h1, h2, h3⟩ | ⟨h1, h2, h3⟩
        · rw [h3, h2]
          refine ⟨?_, .inl ⟨h1, by rw [Rt.eqv_self]; rfl⟩⟩
          rcases last_cases HCF.out with ⟨h4, h5⟩ | ⟨h4, h5⟩
          · rw [h4, h5, Rt.eqv_self]; rfl
          · rw [Rt.eqv_ne (fun e => by rw [e] at h5; have : (0 : Int) = k := h5; omega)]
            simp [h4]
        · have hg := HNG.out
          rw [h3, h2]
          refine ⟨?_, .inr ⟨h1, ?_, by rw [Rt.eqv_self]; rfl⟩⟩
          · rw [Rt.eqv_ne (fun e => by rw [e] at hg; have : (0 : Int) = (k : Int) + 1 := hg; omega)]
            rfl
          · rw [Rt.eqv_ne (fun e => by
              rw [e] at hg
              rcases last_cases HCF.out with ⟨h4, h5⟩ | ⟨h4, h5⟩
              · rw [h5] at hg; have : (0 : Int) = (k : Int) + 1 := hg; omega
              · omega)]
            rfl
      obtain ⟨b0, b1, b2, ⟨i0, i1, i2⟩, rfl, hbb⟩ := hfin
      have hN0 := ne_is rr Rt.zero _ i0
      have hN1 := ne_is rr last _ i1
      have hN2 := ne_is rr nx _ i2
      have hN3 := ne_is nx nx false (by rw [Rt.eqv_self]; rfl)
      rw [show Rt.zero.g = 0 from rfl, show Rt.zero.pl = 0 from rfl, show Rt.zero.sz = 0 from rfl] at hN0
      obtain ⟨⟨p0, p1, p2⟩, _⟩ := rt_cells HX8.out.blk
      obtain ⟨⟨y0, y1, y2⟩, _⟩ := rt_cells HN8.out.blk
      obtain ⟨⟨z0, z1, z2⟩, _⟩ := rt_cells HR8.out.blk
      clear i0 i1 i2
      have HZ := Lib.hid (show w1.heap.size < wr.heap.size ∧ wr.heap.size < w7.heap.size from HD.out)
      obtain ⟨hWP1, hWP2, hWP3, hWP4⟩ := whole_put HCF.out hlt2 HN.out HNG.out
      have HWP1 := Lib.hid hWP1
      have HWP2 := Lib.hid hWP2
      have HWP3 := Lib.hid hWP3
      have HWP4 := Lib.hid hWP4
      clear hWP1 hWP2 hWP3 hWP4
      rcases hbb with ⟨rfl, rfl⟩ | ⟨rfl, rfl, rfl⟩
      all_goals
        go_wp2_with fail
        clear hN0 hN1 hN2 p0 p1 p2 y0 y1 y2 z0 z1 z2
        rw [show (#[Value.pointer (some ⟨p, 0, none⟩), .agg #[.int .u64 nx.g, .int .i64 nx.pl, .int .i64 nx.sz]] : Array Value) = #[Value.pointer (some ⟨p, 0, none⟩), nx.v] from rfl]
        refine (slPut_any o5 1 (by decide) (by decide) p F nx _ HC8.out.f HC8.out.fr HCF.out.ok (by have := HCF.out.rl; omega) HN.out.gOk (HT.out.below HC8.out.bel (Nat.le_refl _))).mono ?_
        rintro e w9 ⟨o9, rfl, hu9, hf9⟩
        rw [HWP1.out]
        have HC9 := Lib.hid (HC8.out.upd1 hu9 hf9)
        have HX9 := Lib.hid (HX8.out.upd hu9 (by decide))
        have HN9 := Lib.hid (HN8.out.upd hu9 (by decide))
        have HR9 := Lib.hid (HR8.out.upd hu9 (by decide))
        clear hu9 hf9
        go_wp2_with fail
        refine (best_any o9 1 p (spF F nx) w9 HC9.out.f (by have := HWP2.out.ok.len; have := HWP2.out.most; omega) HWP2.out.off HWP2.out.ok.bts (HT.out.below HC9.out.bel (Nat.le_refl _))).mono ?_
        rintro e w10 ⟨rfl, hb10⟩
        rw [HWP3.out, HWP4.out, show nx.v = .agg #[.int .u64 nx.g, .int .i64 nx.pl, .int .i64 nx.sz] from rfl]
        have HC10 := Lib.hid (HC9.out.below hb10)
        have HX10 := Lib.hid (HX9.out.below hb10)
        have HN10 := Lib.hid (HN9.out.below hb10)
        have HR10 := Lib.hid (HR9.out.below hb10)
        clear hb10
        obtain ⟨hCs, hRs⟩ := HC10.out.set3 HR10.out (by have := HS1.out; have := HD.out; omega) nx
        have hXs := Bx.far (x := .int .u64 nx.g) (y := .int .i64 nx.pl) (z := .int .i64 nx.sz) HX10.out (show w1.heap.size ≠ w7.heap.size by have := HD.out; omega)
        have hNs := Bx.far (x := .int .u64 nx.g) (y := .int .i64 nx.pl) (z := .int .i64 nx.sz) HN10.out (show wr.heap.size ≠ w7.heap.size by have := HD.out; omega)
        obtain ⟨hCt, hXt⟩ := hCs.set3 hXs HS1.out nx
        obtain ⟨⟨p0, p1, p2⟩, f0, f1, f2⟩ := rt_cells HX10.out.blk
        obtain ⟨⟨y0, y1, y2⟩, _⟩ := rt_cells HN10.out.blk
        obtain ⟨⟨z0, z1, z2⟩, g0, g1, g2⟩ := rt_cells HR10.out.blk
        have HCt := Lib.hid hCt
        have HXt := Lib.hid hXt
        have n1 : ¬ w1.heap.size = w7.heap.size := by have := HD.out; omega
        have n2 : ¬ wr.heap.size = w7.heap.size := by have := HD.out; omega
        have n3 : ¬ wr.heap.size = w1.heap.size := by have := HD.out; omega
        clear hCs hRs hXs hNs hCt hXt
        go_wp2_with fail
        go_roundw
        case rel => exact ⟨k + 1, o9, spF F nx, nx, by omega, by go_num, HWP2.out, HCt.out, HXt.out⟩
        case measure => simp [intOf]; omega
    · rcases (by omega : ¬ (k : Int) < (l.length : Int) ∨ ((k : Int) < (l.length : Int) ∧ ¬ (k : Int) < 30)) with h1 | ⟨h1, h2⟩
      all_goals
        clear hgo
        go_wp2_with (go_at_call 12; refine (lives04 wr (HT.out.below HC.out.bel (Nat.le_refl _))).mono ?_; rintro e w6 ⟨rfl, hb6⟩; have HB6 := Lib.hid (HC.out.bel.trans (hb6.mono HC.out.bel.size)); clear hb6)
        go_ret
        exact ⟨rfl, HB6.out⟩
end Go.Proofs.YtadmpjikkpnjnaaDoor
