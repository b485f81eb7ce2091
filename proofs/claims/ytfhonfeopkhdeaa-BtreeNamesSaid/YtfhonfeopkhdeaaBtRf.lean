/-
  The reference's names: at, Get, Put, Drop, Span. No premise.
-/
import Derived.Test.YtfhonfeopkhdeaaBtRn
import Derived.Test.YtfhonfeopkhdeaaBtCo
import Derived.Test.YtfhonfeopkhdeaaBtSn
namespace Go.Proofs.Ytfhonfeopkhdeaa
open Go.RowKit Go.Proofs.YtfhonfeopkhdeaaW.PrintWords

/-- A name that a comparison takes. -/
def Nm (k : ByteArray) : Prop := k.size ≤ 9223372036854775807
/-- The reference's names hold L. -/
def RL (w : World) (S : Nat → Prop) (r : Nat) (L : List (BS.Ky × Int)) : Prop := RB w S r (L.map (·.1)) (L.map (·.2))
structure RlC (w : World) (S : Nat → Prop) (r : Nat) (L : List (BS.Ky × Int)) (kA : Option Addr) (kc : Nat) (vA : Option Addr) (vc : Nat) : Prop where
  blk : w.heap[r]? = some (.cells #[.slice kA L.length kc, .slice vA L.length vc] 53 (0, 0))
  rk : Rw w 9 (.slice kA L.length kc) (BS.ksR (L.map (·.1)))
  rv : Rw w 38 (.slice vA L.length vc) (BS.vsR (L.map (·.2)))
  sv : ∀ g, (Value.slice vA L.length vc).ownBlock = some g → S g
theorem RL.open {w : World} {S : Nat → Prop} {r : Nat} {L : List (BS.Ky × Int)} (h : RL w S r L) : ∃ kA kc vA vc, RlC w S r L kA kc vA vc := by
  obtain ⟨kA, kc, vA, vc, h1, h2, h3, -, h5⟩ := h.box
  rw [List.length_map] at h1 h2 h3 h5
  rw [List.length_map] at h1
  exact ⟨kA, kc, vA, vc, h1, h2, h3, h5⟩
theorem RlC.cell {w : World} {S : Nat → Prop} {r : Nat} {L : List (BS.Ky × Int)} {kA vA : Option Addr} {kc vc : Nat} (h : RlC w S r L kA kc vA vc) : w.cell? ⟨r, 0, none⟩ = some (.slice kA L.length kc) ∧ w.cell? ⟨r, 1, none⟩ = some (.slice vA L.length vc) := by
  rw [blk_cell h.blk, blk_cell h.blk]
  exact ⟨rfl, rfl⟩
theorem RlC.key {w : World} {S : Nat → Prop} {r : Nat} {L : List (BS.Ky × Int)} {kA vA : Option Addr} {kc vc : Nat} (h : RlC w S r L kA kc vA vc) {i : Nat} (hi : i < L.length) : ∃ g, kA = some ⟨g, 0, none⟩ ∧ w.cell? ⟨g, i, none⟩ = some (.string L[i].1) := by
  obtain ⟨g, e, hg⟩ := h.rk.cells (by rw [BS.ksR, List.length_map, List.length_map]; omega)
  exact ⟨g, e, hg i _ (by rw [BS.ksR, List.getElem?_map, List.getElem?_map, List.getElem?_eq_getElem hi]; rfl)⟩
theorem RlC.val {w : World} {S : Nat → Prop} {r : Nat} {L : List (BS.Ky × Int)} {kA vA : Option Addr} {kc vc : Nat} (h : RlC w S r L kA kc vA vc) {i : Nat} (hi : i < L.length) : ∃ g, vA = some ⟨g, 0, none⟩ ∧ w.cell? ⟨g, i, none⟩ = some (.int .u64 L[i].2) ∧ w.frozen? ⟨g, i, none⟩ = false := by
  obtain ⟨g, rfl, hg⟩ := h.rv.cells (by rw [BS.vsR, List.length_map, List.length_map]; omega)
  refine ⟨g, rfl, hg i _ (by rw [BS.vsR, List.getElem?_map, List.getElem?_map, List.getElem?_eq_getElem hi]; rfl), (h.rv.cell (j := i) (by rw [BS.vsR, List.length_map, List.length_map]; exact hi)).2⟩
/-- What at answers. -/
def AtP (L : List (BS.Ky × Int)) (k : ByteArray) (w : World) (e : Ending) (w' : World) : Prop := ∃ (i : Nat) (is : Bool), e = .returned (.tuple #[.int .i64 i, .bool is]) ∧ At BS.kct L k i is ∧ ∃ m, w' = w.drewN m
set_option maxRecDepth 100000 in
set_option maxHeartbeats 1000000 in
theorem rAt_any (r : Nat) (S : Nat → Prop) (L : List (BS.Ky × Int)) (k : ByteArray) (w : World) (h : RL w S r L) (hs : SortedL BS.kct L) (hl : L.length ≤ 100000) (hz : ∀ a ∈ L, Nm a.1) (hk : Nm k) :
    Calls Try.prog 57 #[.pointer (some ⟨r, 0, none⟩), .string k] w (AtP L k w) := by
  obtain ⟨kA, kc', vA, vc, hc⟩ := h.open
  obtain ⟨c0, -⟩ := hc.cell
  have HKY := Lib.hid (fun i (hi : i < L.length) => hc.key hi)
  have HRC := Lib.hid (fun i (hi : i < L.length) W => refCmpNames_any k L[i].1 W hk (hz _ (List.getElem_mem hi)))
  have HS := Lib.hid hs
  clear h hc hs hz hk
  go_enter Try.func57, Try.ntmps57
  go_wp2_with fail
  go_loopw [6] (fun t6 wr => ∃ i : Nat, i ≤ L.length ∧ t6 = .int .i64 i ∧ Hid (∃ m, wr = w.drewN m) ∧ Hid (∀ j (hj : j < L.length), j < i → 0 < kS k L[j].1)) (fun t6 _ => L.length - (intOf t6).toNat)
  case atStart => exact ⟨0, Nat.zero_le _, rfl, Lib.hid ⟨0, rfl⟩, Lib.hid (fun j hj h => by omega)⟩
  case round =>
    obtain ⟨i, hi, rfl, HW, HP⟩ := hrel
    obtain ⟨m, rfl⟩ := HW.out
    have hsw : ∀ j (hj : j < L.length), kc BS.kct L[j].1 k = - kS k L[j].1 := fun j hj => kc_swap _ _ _
    have HSW := Lib.hid hsw
    clear hsw
    by_cases h : i < L.length
    · have g1 : (i : Int) < (L.length : Int) := by omega
      obtain ⟨g, rfl, d1⟩ := HKY.out i h
      have HCM := Lib.hid (fun W => HRC.out i h W)
      obtain ⟨c, hc⟩ : ∃ c, c = kS k L[i].1 := ⟨_, rfl⟩
      rw [← hc] at HCM
      have HC := Lib.hid hc
      clear hc
      generalize hkk : L[i].1 = k2 at d1 HCM
      have HKK := Lib.hid hkk
      clear hkk
      by_cases hc0 : c ≤ 0
      · have HC0 := Lib.hid hc0
        go_wp2_with (go_at_call 12; refine (HCM.out _).mono ?_; rintro e w2 ⟨rfl, n2, rfl⟩)
        go_ret2
        refine ⟨i, _, rfl, at_of HS.out i hi (fun j hj hji => ?_) (fun hj => ?_) _ (fun hj => ?_) (fun e => by omega), _, rfl⟩
        · rw [HSW.out j hj]
          have := HP.out j hj hji
          omega
        · rw [HSW.out i hj, HKK.out, ← HKK.out, ← HC.out]
          have := HC0.out
          omega
        · rw [HSW.out i hj, ← HC.out]
          by_cases h0 : c = 0
          · simp [h0]
          · simp [h0]
      · have hc1 : ¬ c ≤ 0 := hc0
        go_wp2_with (go_at_call 12; refine (HCM.out _).mono ?_; rintro e w2 ⟨rfl, n2, rfl⟩)
        go_roundw
        case measure => simp [intOf]; omega
        case rel => exact ⟨i + 1, by omega, by simp, Lib.hid ⟨_, rfl⟩, Lib.hid (fun j hj hlt => by
          rcases Nat.lt_or_eq_of_le (show j ≤ i by omega) with h2 | rfl
          · exact HP.out j hj h2
          · rw [← HC.out]; omega)⟩
    · have g1 : decide ((i : Int) < (L.length : Int)) = false := decide_eq_false (by omega)
      have g2 : ¬ (i : Int) < (L.length : Int) := by omega
      have e1 : i = L.length := by omega
      have HE := Lib.hid e1
      clear e1
      go_wp2_with fail
      go_ret2
      refine ⟨L.length, false, rfl, at_of HS.out L.length (Nat.le_refl _) (fun j hj hji => ?_) (fun hj => by omega) _ (fun hj => by omega) (fun _ => rfl), _, rfl⟩
      rw [HSW.out j hj]
      have := HP.out j hj (by rw [HE.out]; exact hji)
      omega
theorem RL.drewN {w : World} {S : Nat → Prop} {r : Nat} {L : List (BS.Ky × Int)} (h : RL w S r L) (n : Nat) : RL (w.drewN n) S r L := by
  obtain ⟨kA, kc, vA, vc, h1, h2, h3, h4, h5⟩ := h.box
  exact ⟨⟨kA, kc, vA, vc, h1, h2.keep fun _ _ _ => rfl, h3.keep fun _ _ _ => rfl, h4, h5⟩, h.sr⟩
set_option maxRecDepth 100000 in
set_option maxHeartbeats 1000000 in
theorem rGet_any (r : Nat) (S : Nat → Prop) (L : List (BS.Ky × Int)) (k : ByteArray) (w : World) (h : RL w S r L) (hs : SortedL BS.kct L) (hl : L.length ≤ 100000) (hz : ∀ a ∈ L, Nm a.1) (hk : Nm k) :
    Calls Try.prog 27 #[.pointer (some ⟨r, 0, none⟩), .string k] w (BS.GetP (getL BS.kct k L) w) := by
  have HAT := Lib.hid (rAt_any r S L k w h hs hl hz hk)
  obtain ⟨kA, kc', vA, vc, hc⟩ := h.open
  obtain ⟨-, c1⟩ := hc.cell
  have HVL := Lib.hid (fun i (hi : i < L.length) => hc.val hi)
  clear h hc hs hz hk
  go_enter Try.func27, Try.ntmps27
  go_wp2_with fail
  refine HAT.out.mono ?_
  rintro e w1 ⟨i, is, rfl, hat, m, rfl⟩
  cases is with
  | true =>
    have hil := hat.lt
    obtain ⟨I1, a, I2, ei, hl1, hlo, hz⟩ := hat.get
    have hg : getL BS.kct k L = some L[i].2 := by
      have e1 : L[i]? = some a := by rw [ei, List.getElem?_append_right (by omega), hl1, Nat.sub_self]; rfl
      rw [List.getElem?_eq_getElem hil] at e1
      rw [Option.some.inj e1]
      conv => lhs; rw [ei]
      exact getL_at hlo hz
    obtain ⟨g, rfl, d1, -⟩ := HVL.out i hil
    have g1 : (i : Int) < (L.length : Int) := by omega
    have HG := Lib.hid hg
    generalize L[i].2 = x at d1 HG
    clear hat hlo hz ei hg
    go_wp2_with fail
    go_ret2
    rw [HG.out]
    exact ⟨rfl, _, rfl⟩
  | false =>
    obtain ⟨I1, I2, ei, hl1, hlo, hhi⟩ := hat.not
    have hg : getL BS.kct k L = none := by rw [ei]; exact getL_new hlo hhi
    have HG := Lib.hid hg
    clear hat hlo hhi ei hg
    go_wp2_with fail
    go_ret2
    rw [HG.out]
    exact ⟨rfl, _, rfl⟩
/-- What a change of the list leaves. -/
def RcP (w : World) (S : Nat → Prop) (r : Nat) (L' : List (BS.Ky × Int)) (v : Value) (e : Ending) (w' : World) : Prop := e = .returned v ∧ ∃ S', RL w' S' r L' ∧ Ch w S w' S'
theorem ins_split {L : List (BS.Ky × Int)} {k : ByteArray} {i : Nat} (h : At BS.kct L k i false) (v : Int) : (insL BS.kct k v L).map (·.1) = (L.map (·.1)).take i ++ [k] ++ (L.map (·.1)).drop i ∧ (insL BS.kct k v L).map (·.2) = (L.map (·.2)).take i ++ [v] ++ (L.map (·.2)).drop i ∧ getL BS.kct k L = none := by
  obtain ⟨I1, I2, ei, hl1, hlo, hhi⟩ := h.not
  subst hl1
  rw [ei, insL_new hlo hhi, getL_new hlo hhi]
  refine ⟨?_, ?_, rfl⟩
  · rw [List.map_append, List.map_append, List.take_left' (by rw [List.length_map]), List.drop_left' (by rw [List.length_map])]
    simp
  · rw [List.map_append, List.map_append, List.take_left' (by rw [List.length_map]), List.drop_left' (by rw [List.length_map])]
    simp
theorem at_split {L : List (BS.Ky × Int)} {k : ByteArray} {i : Nat} (h : At BS.kct L k i true) (v : Int) : (insL BS.kct k v L).map (·.1) = L.map (·.1) ∧ (insL BS.kct k v L).map (·.2) = (L.map (·.2)).set i v ∧ (delL BS.kct k L).map (·.1) = (L.map (·.1)).take i ++ (L.map (·.1)).drop (i + 1) ∧ (delL BS.kct k L).map (·.2) = (L.map (·.2)).take i ++ (L.map (·.2)).drop (i + 1) ∧ (getL BS.kct k L).isSome = true := by
  obtain ⟨I1, a, I2, ei, hl1, hlo, hz⟩ := h.get
  subst hl1
  rw [ei, insL_at hlo hz, delL_at hlo hz, getL_at hlo hz]
  have d1 : ∀ {α : Type} (f : BS.Ky × Int → α), ((I1 ++ a :: I2).map f).take I1.length ++ ((I1 ++ a :: I2).map f).drop (I1.length + 1) = (I1 ++ I2).map f := fun f => by
    rw [List.map_append, List.map_append, List.map_cons]
    have l0 : I1.length = (I1.map f).length := (List.length_map _).symm
    rw [l0, List.take_left, show I1.map f ++ f a :: I2.map f = (I1.map f ++ [f a]) ++ I2.map f from by simp, show (I1.map f).length + 1 = (I1.map f ++ [f a]).length from by simp, List.drop_left]
  refine ⟨by simp, ?_, (d1 _).symm, (d1 _).symm, rfl⟩
  rw [List.map_append, List.map_append, List.map_cons, List.map_cons, List.set_append_right _ _ (by rw [List.length_map]; exact Nat.le_refl _), List.length_map, Nat.sub_self]
  rfl
theorem vsR_set (l : List Int) (i : Nat) (v : Int) : (BS.vsR l).set i (.int .u64 v) = BS.vsR (l.set i v) := by
  unfold BS.vsR
  rw [List.map_set]
/-- A number in place. -/
theorem RB.one {w : World} {S : Nat → Prop} {r : Nat} {K : List BS.Ky} {Vs : List Int} {kA vA : Option Addr} {kc vc g : Nat} (hS : S r) (h1 : w.heap[r]? = some (.cells #[.slice kA K.length kc, .slice vA Vs.length vc] 53 (0, 0))) (h2 : Rw w 9 (.slice kA K.length kc) (BS.ksR K)) (h3 : Rw w 38 (.slice vA Vs.length vc) (BS.vsR Vs)) (h4 : ∀ g, (Value.slice kA K.length kc).ownBlock = some g → S g) (h5 : ∀ g, (Value.slice vA Vs.length vc).ownBlock = some g → S g) (hg : vA = some ⟨g, 0, none⟩) (i : Nat) (v : Int) :
    RB (w.setCell ⟨g, i, none⟩ (.int .u64 v)) S r K (Vs.set i v) ∧ Ch w S (w.setCell ⟨g, i, none⟩ (.int .u64 v)) S := by
  subst hg
  obtain ⟨cur, hb⟩ := h3.blk rfl
  have hne : ∀ {b : Nat} {cs : Array Value} {t : TypeId}, w.heap[b]? = some (.cells cs t (0, 0)) → t ≠ 38 → (w.setCell ⟨g, i, none⟩ (.int .u64 v)).heap[b]? = w.heap[b]? := fun hx ht => Below.heap_setCell w ⟨g, i, none⟩ _ _ (blk_ne hx hb ht)
  have h6 := h3.set i (.int .u64 v)
  rw [vsR_set] at h6
  refine ⟨⟨⟨kA, kc, some ⟨g, 0, none⟩, vc, by rw [List.length_set]; exact (hne h1 (by decide)).trans h1, h2.keep fun b hb2 _ => ?_, by rw [List.length_set]; exact h6, h4, by rw [List.length_set]; exact h5⟩, hS⟩, ⟨rfl, rfl, rfl, by simp [World.setCell], fun b hlt hn => Below.heap_setCell w ⟨g, i, none⟩ _ b (fun e => hn (by rw [e]; exact h5 g rfl)), fun _ h => h, fun _ h => .inl h⟩⟩
  obtain ⟨cs', hc'⟩ := h2.blk hb2
  exact hne hc' (by decide)
set_option maxRecDepth 100000 in
set_option maxHeartbeats 2000000 in
theorem rPut_any (r : Nat) (S : Nat → Prop) (L : List (BS.Ky × Int)) (k : ByteArray) (v : Int) (w : World) (h : RL w S r L) (hs : SortedL BS.kct L) (hl : L.length < 65536) (hz : ∀ a ∈ L, Nm a.1) (hk : Nm k) :
    Calls Try.prog 26 #[.pointer (some ⟨r, 0, none⟩), .string k, .int .u64 v] w (RcP w S r (insL BS.kct k v L) (.tuple #[.bool (getL BS.kct k L).isNone, .int .i64 0])) := by
  have HAT := Lib.hid (rAt_any r S L k w h hs (by omega) hz hk)
  obtain ⟨kA, kc', vA, vc, hc⟩ := h.open
  obtain ⟨c0, c1⟩ := hc.cell
  have HVL := Lib.hid (fun i (hi : i < L.length) => hc.val hi)
  have HR := Lib.hid h
  clear h hc hs hz hk
  go_enter Try.func26, Try.ntmps26
  go_wp2_with fail
  refine HAT.out.mono ?_
  rintro e w1 ⟨i, is, rfl, hat, m, rfl⟩
  cases is with
  | true =>
    have hil := hat.lt
    obtain ⟨a1, a2, -, -, a5⟩ := at_split hat v
    have HA1 := Lib.hid a1
    have HA2 := Lib.hid a2
    have HA5 := Lib.hid a5
    obtain ⟨g, rfl, d1, d2⟩ := HVL.out i hil
    have g1 : (i : Int) < (L.length : Int) := by omega
    generalize L[i].2 = x at d1
    clear hat a1 a2 a5
    go_wp2_with fail
    go_ret2
    have hr := HR.out.drewN m
    obtain ⟨kA', kc2, vA', vc2, h1, h2, h3, h4, h5⟩ := hr.box
    have h6 := blk_cell h1 1
    rw [show (w.drewN m).cell? ⟨r, 1, none⟩ = w.cell? ⟨r, 1, none⟩ from rfl, c1] at h6
    have h7 : vA' = some ⟨g, 0, none⟩ := by
      have h7 := Option.some.inj h6
      exact (Value.slice.inj h7).1.symm
    obtain ⟨h8, h9⟩ := RB.one hr.sr h1 h2 h3 h4 h5 h7 i v
    rw [← HA1.out, ← HA2.out] at h8
    refine ⟨?_, _, h8, (Ch.quiet S ⟨rfl, rfl, rfl, Nat.le_refl _, fun _ _ => rfl⟩ : Ch w S (w.drewN m) S).trans h9⟩
    have : (getL BS.kct k L).isNone = false := by
      cases hgl : getL BS.kct k L with
      | none => have := HA5.out; rw [hgl] at this; cases this
      | some y => rfl
    rw [this]
    rfl
  | false =>
    obtain ⟨a1, a2, a3⟩ := ins_split hat v
    have hil := hat.le
    have HA1 := Lib.hid a1
    have HA2 := Lib.hid a2
    have HA3 := Lib.hid a3
    have n1 : ((L.length : Int) == 65536) = false := beq_eq_false_iff_ne.2 (by omega)
    have n2 : ¬ (L.length : Int) = 65536 := by omega
    have HB1 : Hid (RB (w.drewN m) S r (L.map (·.1)) (L.map (·.2))) := Lib.hid (HR.out.drewN m)
    have hi1 : i ≤ (L.map (·.1)).length := by rw [List.length_map]; exact hil
    have hi2 : i ≤ (L.map (·.2)).length := by rw [List.length_map]; exact hil
    have hl1 : (L.map (·.1)).length ≤ 100000 := by rw [List.length_map]; omega
    have hl2 : (L.map (·.2)).length ≤ 100000 := by rw [List.length_map]; omega
    have HQ := Lib.hid (And.intro (And.intro hi1 hi2) (And.intro hl1 hl2))
    clear hat a1 a2 a3 hi1 hi2 hl1 hl2
    go_upto_region 7 with (fail)
    go_cut [] (fun wc => ∃ S', Hid (RB wc S' r ((L.map (·.1)).take i ++ [k] ++ (L.map (·.1)).drop i) (L.map (·.2))) ∧ Hid (Ch (w.drewN m) S wc S'))
    case first =>
      refine rp_7 r i S (L.map (·.1)) (L.map (·.2)) k HQ.out.1.1 HQ.out.2.1 (w.drewN m) HB1 _ _ _ _ _ _ _ _ _ _ _ _ _ _ _ _ _ _ _ _ _ _ _ _ _ _ _ _ _ _ _ _ _ _ _ _ _ _ _ _ _ _ _ _ _ _ _ _ _ _ _ _ _ _ _ _ _ _ _ _ _ _ _ _ _ _ _ _ _ ?_
      intro _ _ _ _ _ _ _ _ _ _ _ _ _ _ _ _ _ _ _ _ _ w' hrel'
      go_wp2_with fail
      go_meet
      case rel => exact hrel'
    case rest =>
      obtain ⟨S1, HB2, HC2⟩ := hcut
      clear c0 c1
      go_upto_region 8 with (fail)
      go_cut [] (fun wc2 => ∃ S', Hid (RB wc2 S' r ((L.map (·.1)).take i ++ [k] ++ (L.map (·.1)).drop i) ((L.map (·.2)).take i ++ [v] ++ (L.map (·.2)).drop i)) ∧ Hid (Ch wc S1 wc2 S'))
      case first =>
        refine rp_8 r i S1 _ (L.map (·.2)) v HQ.out.1.2 HQ.out.2.2 wc HB2 _ _ _ _ _ _ _ _ _ _ _ _ _ _ _ _ _ _ _ _ _ _ _ _ _ _ _ _ _ _ _ _ _ _ _ _ _ _ _ _ _ _ _ _ _ _ _ _ _ _ _ _ _ _ _ _ _ _ _ _ _ _ _ _ _ _ _ _ _ ?_
        intro _ _ _ _ _ _ _ _ _ _ _ _ _ _ _ _ _ _ _ _ _ w' hrel'
        go_wp2_with fail
        go_meet
        case rel => exact hrel'
      case rest =>
        obtain ⟨S2, HB3, HC3⟩ := hcut
        go_wp2_with fail
        go_ret2
        have h8 := HB3.out
        rw [← HA1.out, ← HA2.out] at h8
        refine ⟨by rw [HA3.out]; rfl, S2, h8, (Ch.quiet S ⟨rfl, rfl, rfl, Nat.le_refl _, fun _ _ => rfl⟩ : Ch w S (w.drewN m) S).trans (HC2.out.trans HC3.out)⟩
set_option maxRecDepth 100000 in
set_option maxHeartbeats 2000000 in
theorem rDrop_any (r : Nat) (S : Nat → Prop) (L : List (BS.Ky × Int)) (k : ByteArray) (w : World) (h : RL w S r L) (hs : SortedL BS.kct L) (hl : L.length ≤ 100000) (hz : ∀ a ∈ L, Nm a.1) (hk : Nm k) :
    Calls Try.prog 28 #[.pointer (some ⟨r, 0, none⟩), .string k] w (RcP w S r (delL BS.kct k L) (.bool (getL BS.kct k L).isSome)) := by
  have HAT := Lib.hid (rAt_any r S L k w h hs hl hz hk)
  obtain ⟨kA, kc', vA, vc, hc⟩ := h.open
  obtain ⟨c0, c1⟩ := hc.cell
  have HR := Lib.hid h
  clear h hc hs hz hk
  go_enter Try.func28, Try.ntmps28
  go_wp2_with fail
  refine HAT.out.mono ?_
  rintro e w1 ⟨i, is, rfl, hat, m, rfl⟩
  cases is with
  | true =>
    have hil := hat.lt
    obtain ⟨-, -, a3, a4, a5⟩ := at_split hat 0
    have HA3 := Lib.hid a3
    have HA4 := Lib.hid a4
    have HA5 := Lib.hid a5
    have HB1 : Hid (RB (w.drewN m) S r (L.map (·.1)) (L.map (·.2))) := Lib.hid (HR.out.drewN m)
    have hi1 : i < (L.map (·.1)).length := by rw [List.length_map]; exact hil
    have hi2 : i < (L.map (·.2)).length := by rw [List.length_map]; exact hil
    have hl1 : (L.map (·.1)).length ≤ 100000 := by rw [List.length_map]; omega
    have hl2 : (L.map (·.2)).length ≤ 100000 := by rw [List.length_map]; omega
    have HQ := Lib.hid (And.intro (And.intro hi1 hi2) (And.intro hl1 hl2))
    clear hat a3 a4 a5 hi1 hi2 hl1 hl2 c0 c1
    go_upto_region 3 with (fail)
    go_cut [] (fun wc => ∃ S', Hid (RB wc S' r ((L.map (·.1)).take i ++ (L.map (·.1)).drop (i + 1)) (L.map (·.2))) ∧ Hid (Ch (w.drewN m) S wc S'))
    case first =>
      refine rd_3 r i S (L.map (·.1)) (L.map (·.2)) HQ.out.1.1 HQ.out.2.1 (w.drewN m) HB1 _ _ _ _ _ _ _ _ _ _ _ _ _ _ _ _ _ _ _ _ _ _ _ _ _ _ _ _ _ _ _ _ _ _ _ _ _ _ _ _ _ _ _ _ _ _ _ _ _ _ _ ?_
      intro _ _ _ _ _ _ _ _ _ _ _ _ _ _ _ _ _ _ _ w' hrel'
      go_wp2_with fail
      go_meet
      case rel => exact hrel'
    case rest =>
      obtain ⟨S1, HB2, HC2⟩ := hcut
      go_upto_region 4 with (fail)
      go_cut [] (fun wc2 => ∃ S', Hid (RB wc2 S' r ((L.map (·.1)).take i ++ (L.map (·.1)).drop (i + 1)) ((L.map (·.2)).take i ++ (L.map (·.2)).drop (i + 1))) ∧ Hid (Ch wc S1 wc2 S'))
      case first =>
        refine rd_4 r i S1 _ (L.map (·.2)) HQ.out.1.2 HQ.out.2.2 wc HB2 _ _ _ _ _ _ _ _ _ _ _ _ _ _ _ _ _ _ _ _ _ _ _ _ _ _ _ _ _ _ _ _ _ _ _ _ _ _ _ _ _ _ _ _ _ _ _ _ _ _ _ ?_
        intro _ _ _ _ _ _ _ _ _ _ _ _ _ _ _ _ _ _ _ w' hrel'
        go_wp2_with fail
        go_meet
        case rel => exact hrel'
      case rest =>
        obtain ⟨S2, HB3, HC3⟩ := hcut
        go_wp2_with fail
        go_ret
        have h8 := HB3.out
        rw [← HA3.out, ← HA4.out] at h8
        exact ⟨by rw [HA5.out]; rfl, S2, h8, (Ch.quiet S ⟨rfl, rfl, rfl, Nat.le_refl _, fun _ _ => rfl⟩ : Ch w S (w.drewN m) S).trans (HC2.out.trans HC3.out)⟩
  | false =>
    obtain ⟨I1, I2, ei, hl1, hlo, hhi⟩ := hat.not
    have hg : getL BS.kct k L = none := by rw [ei]; exact getL_new hlo hhi
    have hd : delL BS.kct k L = L := by
      rw [ei, delL_lo hlo]
      cases I2 with
      | nil => rfl
      | cons b s => exact congrArg (I1 ++ ·) (if_pos (hhi b List.mem_cons_self))
    have HG := Lib.hid hg
    have HD := Lib.hid hd
    clear hat hlo hhi ei hg hd
    go_wp2_with fail
    go_ret
    rw [HG.out, HD.out]
    exact ⟨rfl, S, HR.out.drewN m, Ch.quiet S ⟨rfl, rfl, rfl, Nat.le_refl _, fun _ _ => rfl⟩⟩
set_option maxRecDepth 100000 in
set_option maxHeartbeats 2000000 in
theorem rSpan_any (r : Nat) (S : Nat → Prop) (L : List (BS.Ky × Int)) (low high : ByteArray) (w : World) (h : RL w S r L) (hl : L.length ≤ 100000) (hz : ∀ a ∈ L, Nm a.1) (hlo : Nm low) (hhi : Nm high) :
    Calls Try.prog 30 #[.pointer (some ⟨r, 0, none⟩), .string low, .string high] w fun e w' => ∃ v, e = .returned v ∧ Rw w' 9 v (BS.ksR ((L.map (·.1)).filter fun k => !BS.outS low high k)) ∧ Below w.heap.size w w' := by
  have HR := Lib.hid h
  have HRC := Lib.hid (fun i (hi : i < L.length) W => And.intro (refCmpNames_any L[i].1 low W (hz _ (List.getElem_mem hi)) hlo) (refCmpNames_any L[i].1 high W (hz _ (List.getElem_mem hi)) hhi))
  obtain ⟨kA, kc', vA, vc, hc⟩ := h.open
  have HC := Lib.hid (fun W (hW : Below w.heap.size w W) => show W.cell? ⟨r, 0, none⟩ = some (.slice kA L.length kc') from (hW.cell (World.block_lt_of_cell? w _ hc.cell.1)).trans hc.cell.1)
  have HKY := Lib.hid (fun W (hW : Below w.heap.size w W) i (hi : i < L.length) => show ∃ g, kA = some ⟨g, 0, none⟩ ∧ W.cell? ⟨g, i, none⟩ = some (.string L[i].1) from by
    obtain ⟨g, e, h1⟩ := hc.key hi
    exact ⟨g, e, (hW.cell (World.block_lt_of_cell? w _ h1)).trans h1⟩)
  obtain ⟨i0, hi0, hz0, hz1, hz2⟩ := info_parts infoBS
  clear h hc hz hlo hhi
  go_enter Try.func30, Try.ntmps30
  go_wp2_with fail
  go_loopw [7, 8] (fun t7 t8 wr => ∃ i : Nat, ∃ v7, ∃ X : List BS.Ky, v7 = t7 ∧ i ≤ L.length ∧ X.length ≤ i ∧ t8 = .int .i64 i ∧ Hid (X = (((L.take i).map (·.1)).filter fun k => !BS.outS low high k)) ∧ Hid (wr.ownsRow w.heap.size 9 1 v7 X.length (BS.ksR X)) ∧ Hid (Below w.heap.size w wr)) (fun _ t8 _ => L.length - (intOf t8).toNat)
  case atStart => exact ⟨0, _, [], rfl, Nat.zero_le _, Nat.zero_le _, rfl, Lib.hid (by simp), Lib.hid (World.ownsRow_nil _ _ _ _), Lib.hid (Below.refl _ _)⟩
  case round =>
    obtain ⟨i, v7, X, rfl, hi, hX, rfl, HX, HO, HB⟩ := hrel
    have c0 := HC.out _ HB.out
    by_cases h : i < L.length
    · have g1 : (i : Int) < (L.length : Int) := by omega
      obtain ⟨g, rfl, d1⟩ := HKY.out _ HB.out i h
      have HC1 := Lib.hid (fun W => (HRC.out i h W).1)
      have HC2 := Lib.hid (fun W => (HRC.out i h W).2)
      have HTK := Lib.hid (show (((L.take (i + 1)).map (·.1)).filter fun k => !BS.outS low high k) = (((L.take i).map (·.1)).filter fun k => !BS.outS low high k) ++ (if BS.outS low high L[i].1 then [] else [L[i].1]) by
        rw [List.take_add_one, List.getElem?_eq_getElem h, List.map_append, List.filter_append]
        cases hP : BS.outS low high L[i].1 <;> simp [hP])
      have hdn : ∀ n, Below w.heap.size w (wr.drewN n) := fun n => HB.out.trans ⟨rfl, rfl, rfl, Nat.le_refl _, fun _ _ => rfl⟩
      have HDN := Lib.hid hdn
      have HCN := Lib.hid (fun n => And.intro (HC.out _ (hdn n)) (HKY.out _ (hdn n) i h))
      clear hdn
      have HOD := Lib.hid (show BS.outS low high L[i].1 = (decide (kS L[i].1 low < 0) || decide (0 ≤ kS L[i].1 high)) from rfl)
      generalize BS.outS low high L[i].1 = ob at HTK HOD
      generalize kS L[i].1 low = e1 at HC1 HOD
      generalize kS L[i].1 high = e2 at HC2 HOD
      generalize L[i].1 = k at d1 HC1 HC2 HTK
      by_cases q1 : e1 < 0
      · have q2 : decide (0 ≤ e1) = false := decide_eq_false (by omega)
        have q3 : ¬ 0 ≤ e1 := by omega
        have HOB : Hid (ob = true) := Lib.hid (by rw [HOD.out, decide_eq_true q1]; rfl)
        clear q1
        go_wp2_with (go_at_call 12; refine (HC1.out _).mono ?_; rintro e w2 ⟨rfl, n2, rfl⟩)
        go_roundw
        case measure => simp [intOf]; omega
        case rel => exact ⟨i + 1, v7, X, rfl, by omega, by omega, by simp, Lib.hid (by rw [HTK.out, HOB.out, HX.out]; simp), Lib.hid (BS.ownsRow_keep HO.out fun _ _ _ => rfl), Lib.hid (HDN.out _)⟩
      · have q2 : 0 ≤ e1 := by omega
        by_cases q4 : e2 < 0
        · have HOB : Hid (ob = false) := Lib.hid (by rw [HOD.out, decide_eq_false q1, decide_eq_false (by omega)]; rfl)
          clear q1
          go_wp2_with fail
          refine (HC1.out _).mono ?_
          rintro e w2 ⟨rfl, n2, rfl⟩
          clear HC1
          go_upto_region 6 with (go_at_call 12; refine (HC2.out _).mono ?_; rintro e w3 ⟨rfl, n3, rfl⟩)
          generalize hq : World.drewN _ _ = wq
          have hqb : Below wr.heap.size wr wq := by rw [← hq]; exact ⟨rfl, rfl, rfl, Nat.le_refl _, fun _ _ => rfl⟩
          clear hq
          have hqw := HB.out.trans (hqb.mono HB.out.size)
          have c5 := HC.out _ hqw
          obtain ⟨d6a, d6⟩ := (show wq.cell? ⟨g, i, none⟩ = some (.string k) ∧ True from ⟨(hqb.cell (World.block_lt_of_cell? wr _ d1)).trans d1, trivial⟩)
          clear d6
          have hsz : w.heap.size ≤ wr.heap.size := HB.out.size
          have hba : Below wr.heap.size wr (wq.alloc (.cells #[.string k] 9)) := hqb.alloc hqb.size _
          obtain ⟨g7, cap7, w7, hrun, hown, hgrow, hat, hlt7⟩ := run_append_lies (P := Try.prog) _ 34 34 w.heap.size 9 i0 _ 1 16 Try.underlying34 hi0 hz0 hz1 hz2 rfl (by decide) v7 X.length (BS.ksR X) (BS.ownsRow_keep HO.out fun g _ hl => hba.block g hl) ⟨wq.heap.size, 0, none⟩ 1 1 [.string k] rfl (World.news_of_block (BS.top_blk _ _ _)) (by simp [Value.oneCell']) (by decide) (by simp only [maxLen]; omega) (by omega) (by have := hba.size; omega) _ rfl
          have HRUN := Lib.hid hrun
          have HO7 := Lib.hid hown
          have HB7 := Lib.hid (HB.out.trans ((hba.mono hsz).trans ⟨hgrow.os, hgrow.tape, hgrow.output, hgrow.size, fun b hb => hgrow.block b (by have := hba.size; omega) (fun e => by
            have := (World.ownsRow.lt HO.out b e.symm).1
            omega)⟩))
          have HLX := Lib.hid (show (X ++ [k]).length = X.length + 1 ∧ BS.ksR (X ++ [k]) = BS.ksR X ++ [.string k] by simp [BS.ksR, BS.kv])
          clear hrun hown hgrow hat hlt7 hba hsz
          go_wp2_with (at_builtin; refine Lib.wpList_append_run _ rfl _ _ _ _ rfl _ _ rfl rfl _ _ HRUN.out ?_)
          go_roundw
          case measure => simp [intOf]; omega
          case rel =>
            refine ⟨i + 1, _, X ++ [k], rfl, by omega, by rw [HLX.out.1]; omega, by simp, Lib.hid (by rw [HTK.out, HOB.out, HX.out]; simp), Lib.hid ?_, HB7⟩
            rw [HLX.out.1, HLX.out.2]
            exact HO7.out
        · have HOB : Hid (ob = true) := Lib.hid (by rw [HOD.out, decide_eq_false q1, decide_eq_true (show 0 ≤ e2 by omega)]; rfl)
          have q5 : decide (e2 < 0) = false := decide_eq_false q4
          clear q1
          go_wp2_with fail
          refine (HC1.out _).mono ?_
          rintro e w2 ⟨rfl, n2, rfl⟩
          clear HC1
          go_wp2_with (go_at_call 12; refine (HC2.out _).mono ?_; rintro e w3 ⟨rfl, n3, rfl⟩)
          go_roundw
          case measure => simp [intOf]; omega
          case rel => exact ⟨i + 1, v7, X, rfl, by omega, by omega, by simp, Lib.hid (by rw [HTK.out, HOB.out, HX.out]; simp), Lib.hid (BS.ownsRow_keep HO.out fun _ _ _ => rfl), Lib.hid (HDN.out _)⟩
    · have g1 : decide ((i : Int) < (L.length : Int)) = false := decide_eq_false (by omega)
      have g2 : ¬ (i : Int) < (L.length : Int) := by omega
      have HE : Hid (X = ((L.map (·.1)).filter fun k => !BS.outS low high k)) := Lib.hid (by rw [HX.out, List.take_of_length_le (by omega)])
      go_wp2_with fail
      go_ret
      rw [← HE.out]
      exact ⟨v7, rfl, Rw.of_own HO.out, HB.out⟩
end Go.Proofs.Ytfhonfeopkhdeaa
