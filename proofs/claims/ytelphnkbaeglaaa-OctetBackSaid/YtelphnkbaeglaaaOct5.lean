/-
  octet.Swap, octet.PutBytes, octet.GetBytes. No premise.
-/
import Derived.Test.YtelphnkbaeglaaaOct4
namespace Go.Proofs.Ytelphnkbaeglaaa
open Go.RowKit Go.Proofs.YtelphnkbaeglaaaW.PrintWords

theorem own_cases {w : World} {base : Nat} {v : Value} {l : List Int} (h : Own w base v l) : (v = .slice none 0 0 ∧ l = []) ∨ ∃ g cap, v = .slice (some ⟨g, 0, none⟩) l.length cap := by
  rcases h.2 with ⟨h1, h2⟩ | ⟨g, cap, _, h1, _⟩
  · exact .inl ⟨h1, List.eq_nil_of_length_eq_zero h2⟩
  · exact .inr ⟨g, cap, h1⟩

theorem cut_int (A : Option Addr) (l : List Int) (c : Nat) (lo hi : Int) (h0 : 0 ≤ lo) (h1 : lo ≤ hi) (h2 : hi ≤ l.length) (hc : l.length ≤ c) :
    ∃ A' l', Hid (l' = (l.drop lo.toNat).take (hi - lo).toNat) ∧ Hid ((l'.length : Int) = hi - lo) ∧
      (∀ W : World, (Instr.slice 22 (.slice A l.length c) (some (.int .i64 lo)) (some (.int .i64 hi)) none).run Try.prog W = .ok (.slice A' l'.length (c - lo.toNat)) W) ∧
      (∀ w, Rd w A l → Rd w A' l') ∧ l'.length ≤ c - lo.toNat := by
  obtain ⟨i0, hi', hz0, hz1, hz2⟩ := info_parts infoB
  obtain ⟨A', g1, g2, g3⟩ := print_mid_int (P := Try.prog) (k := .u8) 22 5 Try.underlying22 hi' hz1 A c l lo hi h0 h1 h2 hc
  have hd : (l.take hi.toNat).drop lo.toNat = (l.drop lo.toNat).take (hi - lo).toNat := by rw [List.drop_take]; congr 1; omega
  rw [hd] at g1 g2 g3
  refine ⟨A', (l.drop lo.toNat).take (hi - lo).toNat, rfl, ?_, g1, g2, g3⟩
  show (_ : Int) = _
  simp
  omega

set_option maxHeartbeats 400000 in
theorem reverse_nil (w : World) : Calls Try.prog 33 #[.slice none 0 0] w fun e w' => e = .returned (.tuple #[]) ∧ w = w' := by
  go_enter Try.func33, Try.ntmps33
  go_wp2_with fail
  refine wp_loop_once ?_
  go_wp2_with fail
  go_end0
  exact ⟨rfl, rfl⟩

set_option maxHeartbeats 800000 in
theorem swap_any (A : Option Addr) (c : Nat) (l : List Int) (w : World) (hr : Rd w A l) (hl : l.length ≤ 150000000000000) :
    Calls Try.prog 20 #[.slice A l.length c] w fun e w' => ∃ v, e = .returned v ∧ Own w' w.heap.size v l.reverse ∧ Below w.heap.size w w' := by
  have HR := Lib.hid hr
  clear hr
  go_enter Try.func20, Try.ntmps20
  go_wp2_with fail
  refine (clone_any A c l _ HR.out hl).mono ?_
  rintro e w1 ⟨v, rfl, ho, hb⟩
  have HB := Lib.hid hb
  clear hb
  rcases own_cases ho with ⟨rfl, rfl⟩ | ⟨g, cap, rfl⟩
  · clear ho
    go_wp2_with (go_at_call 33; refine (reverse_nil _).mono ?_; rintro e w' ⟨rfl, rfl⟩)
    go_ret
    exact ⟨_, rfl, World.ownsRow_nil _ _ _ _, HB.out⟩
  · have HO := Lib.hid ho
    clear ho
    have hg := (own_open HO.out).1
    go_wp2_with (go_at_call 33; refine (reverse_any l _ g cap _ HO.out hl).mono ?_; rintro e w' ⟨rfl, ho2, hg2⟩; have HO2 := Lib.hid ho2; have HG2 := Lib.hid hg2; clear ho2 hg2)
    go_ret
    refine ⟨_, rfl, ?_, HB.out.grown HG2.out HB.out.size (by simpa using hg)⟩
    exact HO2.out

def pbL (b x : List Int) : List Int := if x.length ≤ 65536 then b ++ dig 4 true x.length ++ x else []
def pbE (x : List Int) : Int := if x.length ≤ 65536 then 0 else 3
def PbPost (w : World) (b x : List Int) (e : Ending) (w' : World) : Prop :=
  ∃ v, e = .returned (.tuple #[v, .int .i64 (pbE x)]) ∧ Own w' w.heap.size v (pbL b x) ∧ Below w.heap.size w w'
theorem putE_len (x : List Int) (h : x.length ≤ 65536) : putE 4 x.length = 0 := by
  have : fitsB x.length 4 = true := by simp [fitsB]; omega
  simp [putE, this]
theorem putL_len (b x : List Int) (h : x.length ≤ 65536) : putL b 4 true x.length = b ++ dig 4 true x.length := by
  have : fitsB x.length 4 = true := by simp [fitsB]; omega
  simp [putL, this]

set_option maxHeartbeats 800000 in
theorem putbytes_any (A B : Option Addr) (c d : Nat) (b x : List Int) (w : World) (hr : Rd w A b) (hx : Rd w B x) (hl : b.length + 4 + 65536 ≤ 150000000000000) (hxl : x.length ≤ 150000000000000) :
    Calls Try.prog 22 #[.slice A b.length c, .slice B x.length d] w (PbPost w b x) := by
  have HR := Lib.hid hr
  have HX := Lib.hid hx
  clear hr hx
  by_cases h1 : 65536 < x.length
  · go_enter Try.func22, Try.ntmps22
    go_wp2_with fail
    go_ret2
    refine ⟨.slice none 0 0, ret2 (by rw [pbE, if_neg (by omega)]), ?_, Below.refl _ _⟩
    rw [pbL, if_neg (by omega)]
    exact World.ownsRow_nil _ _ _ _
  · have h1' : x.length ≤ 65536 := by omega
    go_enter Try.func22, Try.ntmps22
    go_wp2_with (first | (go_at_call 11; refine (put_any A c b 4 true x.length _ HR.out (by omega)).mono ?_; rintro e w1 ⟨v, rfl, ho, hb⟩; rw [putL_len b x h1'] at ho; rw [putE_len x h1']; have HO := Lib.hid ho; have HB := Lib.hid hb; clear ho hb) | (at_builtin; refine app w.heap.size rfl _ _ rfl v (b ++ dig 4 true x.length) x B d rfl rfl HO.out (HX.out.below HB.out) HB.out.size ?_ ?_))
    · rw [List.length_append, dig_length]; omega
    intro v2 w2 h2 h3
    have H2 := Lib.hid h2
    have H3 := Lib.hid (HB.out.grown h3 HB.out.size (fun k hk => own_base HO.out k hk))
    clear h2 h3
    go_wp2_with fail
    go_ret2
    refine ⟨_, ret2 (by rw [pbE, if_pos h1']), ?_, H3.out⟩
    rw [pbL, if_pos h1', List.append_assoc]
    exact H2.out

/-- What GetBytes tells: the run, the place behind it, the error. -/
def gbE (b : List Int) (at_ : Int) : Int := if getE b at_ 4 ≠ 0 then getE b at_ 4 else if 65536 < getU b at_ 4 true then 3 else if (b.length : Int) - at_ - 4 < getU b at_ 4 true then 4 else 0
def gbL (b : List Int) (at_ : Int) : List Int := if gbE b at_ = 0 then (b.drop (at_.toNat + 4)).take (getU b at_ 4 true).toNat else []
def gbN (b : List Int) (at_ : Int) : Int := if gbE b at_ = 0 then at_ + 4 + getU b at_ 4 true else 0
def GbPost (w : World) (b : List Int) (at_ : Int) (e : Ending) (w' : World) : Prop :=
  ∃ v, e = .returned (.tuple #[v, .int .i64 (gbN b at_), .int .i64 (gbE b at_)]) ∧ Own w' w.heap.size v (gbL b at_) ∧ Below w.heap.size w w'
theorem ret3 {v : Value} {k k' : IntKind} {x y a b : Int} (h1 : x = y) (h : a = b) : Ending.returned (.tuple #[v, .int k x, .int k' a]) = .returned (.tuple #[v, .int k y, .int k' b]) := by rw [h1, h]

set_option maxHeartbeats 800000 in
theorem getbytes_any (A : Option Addr) (c : Nat) (b : List Int) (at_ : Int) (w : World) (hr : Rd w A b) (hb : Bts b) (hc : b.length ≤ c) (hl : b.length ≤ 150000000000000) (ha : -9223372036854775808 ≤ at_) (ha2 : at_ ≤ 9223372036854775807) :
    Calls Try.prog 24 #[.slice A b.length c, .int .i64 at_] w (GbPost w b at_) := by
  have HR := Lib.hid hr
  have HBt := Lib.hid hb
  clear hr hb
  by_cases h1 : getE b at_ 4 = 0
  · have h1b : (getE b at_ 4 != 0) = false := by simp [h1]
    have hr1 : 0 ≤ at_ ∧ at_ + 4 ≤ b.length := by
      unfold getE at h1
      split at h1
      · split at h1 <;> omega
      · omega
    have hu : 0 ≤ getU b at_ 4 true ∧ getU b at_ 4 true < 4294967296 := by
      rw [getU, if_pos (by omega)]
      exact getk_range ((HBt.out.drop _).take _) 4 true 4
    obtain ⟨u, hu'⟩ : ∃ u, u = getU b at_ 4 true := ⟨_, rfl⟩
    have hE : gbE b at_ = if 65536 < u then 3 else if (b.length : Int) - at_ - 4 < u then 4 else 0 := by rw [gbE, if_neg (by omega), hu']
    have HE := Lib.hid hE
    have HU := Lib.hid hu'
    have H1 := Lib.hid h1
    rw [← hu'] at hu
    clear hE hu' h1
    by_cases h2 : 65536 < u
    · go_enter Try.func24, Try.ntmps24
      go_wp2_with (go_at_call 18; refine (get_any A c b at_ 4 true _ HR.out HBt.out hc hl ha ha2).mono ?_; rintro e w1 ⟨rfl, hb⟩; rw [H1.out, ← HU.out]; have HB := Lib.hid hb; clear hb)
      go_ret3
      have hE := HE.out
      rw [if_pos h2] at hE
      refine ⟨.slice none 0 0, ret3 (by rw [gbN, if_neg (by omega)]) hE.symm, ?_, HB.out⟩
      rw [gbL, if_neg (by omega)]
      exact World.ownsRow_nil _ _ _ _
    by_cases h3 : (b.length : Int) - at_ - 4 < u
    · go_enter Try.func24, Try.ntmps24
      go_wp2_with (go_at_call 18; refine (get_any A c b at_ 4 true _ HR.out HBt.out hc hl ha ha2).mono ?_; rintro e w1 ⟨rfl, hb⟩; rw [H1.out, ← HU.out]; have HB := Lib.hid hb; clear hb)
      go_ret3
      have hE := HE.out
      rw [if_neg (by omega), if_pos h3] at hE
      refine ⟨.slice none 0 0, ret3 (by rw [gbN, if_neg (by omega)]) hE.symm, ?_, HB.out⟩
      rw [gbL, if_neg (by omega)]
      exact World.ownsRow_nil _ _ _ _
    obtain ⟨A', l', hl', hll, hcut, hrd, hcap⟩ := cut_int A b c (at_ + 4) (at_ + 4 + u) (by omega) (by omega) (by omega) hc
    have HRD := Lib.hid hrd
    clear hrd
    go_enter Try.func24, Try.ntmps24
    go_wp2_with (first | (go_at_call 18; refine (get_any A c b at_ 4 true _ HR.out HBt.out hc hl ha ha2).mono ?_; rintro e w1 ⟨rfl, hb⟩; rw [H1.out, ← HU.out]; have HB := Lib.hid hb; clear hb) | (go_at_call 32; refine (clone_any A' (c - (at_ + 4).toNat) l' _ (HRD.out _ (HR.out.below HB.out)) (by have := hll.out; omega)).mono ?_; rintro e w2 ⟨v, rfl, ho, hb2⟩; have HO := Lib.hid ho; have HB2 := Lib.hid hb2; clear ho hb2))
    have hE := HE.out
    rw [if_neg (by omega), if_neg (by omega)] at hE
    go_ret3
    refine ⟨v, ret3 (by rw [gbN, if_pos hE, HU.out]) hE.symm, ?_, HB.out.trans (HB2.out.mono HB.out.size)⟩
    rw [gbL, if_pos hE]
    have := HO.out
    rw [hl'.out, HU.out] at this
    rw [show (at_ + 4).toNat = at_.toNat + 4 from by omega, show (at_ + 4 + getU b at_ 4 true - (at_ + 4)) = getU b at_ 4 true from by omega] at this
    exact own_weaken this HB.out.size
  · have h1b : (getE b at_ 4 != 0) = true := by simp [h1]
    have hE : gbE b at_ = getE b at_ 4 := by rw [gbE, if_pos h1]
    have HE := Lib.hid hE
    clear hE
    go_enter Try.func24, Try.ntmps24
    go_wp2_with (go_at_call 18; refine (get_any A c b at_ 4 true _ HR.out HBt.out hc hl ha ha2).mono ?_; rintro e w1 ⟨rfl, hb⟩; have HB := Lib.hid hb; clear hb)
    go_ret3
    have hE := HE.out
    refine ⟨.slice none 0 0, ret3 (by rw [gbN, if_neg (by omega)]) hE.symm, ?_, HB.out⟩
    rw [gbL, if_neg (by omega)]
    exact World.ownsRow_nil _ _ _ _
theorem own_str {w : World} {base : Nat} {v : Value} {l : List Int} (h : Own w base v l) : (convert 22 9 v).run Try.prog w = .ok (.string (strOfNums l)) w :=
  own_string Try.underlying22 Try.underlying5 Try.underlying9 h

theorem own_strN {w : World} {base : Nat} {v : Value} {l : List Int} (h : Own w base v l) (m : Nat) : (convert 22 9 v).run Try.prog (w.drewN m) = .ok (.string (strOfNums l)) (w.drewN m) :=
  own_str (w := w.drewN m) (base := base) h
theorem own_step {w w1 : World} {base : Nat} {v : Value} {l : List Int} (h : Own w base v l) (hb : Below w.heap.size w w1) : Own w1 base v l := pw_own_below h hb
/-- What is written is another block. -/
theorem own_far {w w1 : World} {base : Nat} {v : Value} {l : List Int} {r : Option Nat} (h : Own w base v l) (hg : w.grownBy w1 r) (hr : ∀ k, r = some k → v.ownBlock ≠ some k) : Own w1 base v l := by
  refine own_other h hg ?_
  rcases r with _ | k
  · cases v.ownBlock <;> simp
  · exact .inr (hr k rfl)
theorem own_lo {w : World} {base : Nat} {v : Value} {l : List Int} (h : Own w base v l) {k : Nat} (hk : v.ownBlock = some k) : base ≤ k := own_base h k hk
theorem own_hi {w : World} {base : Nat} {v : Value} {l : List Int} (h : Own w base v l) {k : Nat} (hk : v.ownBlock = some k) : k < w.heap.size := own_lt h k hk
end Go.Proofs.Ytelphnkbaeglaaa
