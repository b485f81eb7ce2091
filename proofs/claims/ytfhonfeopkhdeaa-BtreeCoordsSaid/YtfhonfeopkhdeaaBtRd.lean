/-
  The reference's coordinates: at, Get, Put, Drop, Span. No premise.
-/
import Derived.Test.YtfhonfeopkhdeaaBtRm
namespace Go.Proofs.Ytfhonfeopkhdeaa.RC
open Go.RowKit Go.Proofs.YtfhonfeopkhdeaaW.PrintWords
open BC (idc kv Ck)

abbrev Kv := List Int × Int
/-- The reference's coordinates hold L. -/
def RL (w : World) (S : Nat → Prop) (r : Nat) (L : List Kv) : Prop := ∃ K : List Ck, K.map (·.l) = L.map (·.1) ∧ RBc w S r K (L.map (·.2))
structure RlC (w : World) (S : Nat → Prop) (r : Nat) (L : List Kv) (K : List Ck) (kA : Option Addr) (kc : Nat) (vA : Option Addr) (vc : Nat) : Prop where
  ek : K.map (·.l) = L.map (·.1)
  ln : K.length = L.length
  blk : w.heap[r]? = some (.cells #[.slice kA L.length kc, .slice vA L.length vc] 71 (0, 0))
  rk : Rw w 22 (.slice kA L.length kc) (BC.ksR K)
  rv : Rw w 38 (.slice vA L.length vc) (BC.vsR (L.map (·.2)))
  sv : ∀ g, (Value.slice vA L.length vc).ownBlock = some g → S g
  fs : ∀ k ∈ K, Fs w S k
theorem len_of {L : List Kv} {K : List Ck} (h : K.map (·.l) = L.map (·.1)) : K.length = L.length := by
  have := congrArg List.length h
  rwa [List.length_map, List.length_map] at this
theorem key_of {L : List Kv} {K : List Ck} (h : K.map (·.l) = L.map (·.1)) {i : Nat} (hi : i < L.length) (hk : i < K.length) : (K[i]).l = (L[i]).1 := by
  have := congrArg (fun x => x[i]?) h
  simp only [List.getElem?_map, List.getElem?_eq_getElem hi, List.getElem?_eq_getElem hk, Option.map_some] at this
  exact Option.some.inj this
theorem RL.open {w : World} {S : Nat → Prop} {r : Nat} {L : List Kv} (h : RL w S r L) : ∃ K kA kc vA vc, RlC w S r L K kA kc vA vc := by
  obtain ⟨K, ek, h⟩ := h
  obtain ⟨kA, kc, vA, vc, h1, h2, h3, -, h5, h6⟩ := h.box
  have ln := len_of ek
  rw [List.length_map] at h1 h3 h5
  rw [ln] at h1 h2
  exact ⟨K, kA, kc, vA, vc, ek, ln, h1, h2, h3, h5, h6⟩
theorem RlC.cell {w : World} {S : Nat → Prop} {r : Nat} {L : List Kv} {K : List Ck} {kA vA : Option Addr} {kc vc : Nat} (h : RlC w S r L K kA kc vA vc) : w.cell? ⟨r, 0, none⟩ = some (.slice kA L.length kc) ∧ w.cell? ⟨r, 1, none⟩ = some (.slice vA L.length vc) := by
  rw [blk_cell h.blk, blk_cell h.blk]
  exact ⟨rfl, rfl⟩
theorem RlC.key {w : World} {S : Nat → Prop} {r : Nat} {L : List Kv} {K : List Ck} {kA vA : Option Addr} {kc vc : Nat} (h : RlC w S r L K kA kc vA vc) {i : Nat} (hi : i < L.length) : ∃ g, kA = some ⟨g, 0, none⟩ ∧ ∃ key : Ck, key.l = L[i].1 ∧ BC.KRd w key ∧ w.cell? ⟨g, i, none⟩ = some (.slice key.A key.l.length key.c) := by
  have hk : i < K.length := by rw [h.ln]; exact hi
  obtain ⟨g, e, hg⟩ := h.rk.cells (by rw [BC.ksR, List.length_map]; omega)
  exact ⟨g, e, K[i], key_of h.ek hi hk, (h.fs _ (List.getElem_mem hk)).rd, hg i _ (by rw [BC.ksR, List.getElem?_map, List.getElem?_eq_getElem hk]; rfl)⟩
theorem RlC.val {w : World} {S : Nat → Prop} {r : Nat} {L : List Kv} {K : List Ck} {kA vA : Option Addr} {kc vc : Nat} (h : RlC w S r L K kA kc vA vc) {i : Nat} (hi : i < L.length) : ∃ g, vA = some ⟨g, 0, none⟩ ∧ w.cell? ⟨g, i, none⟩ = some (.int .u64 L[i].2) ∧ w.frozen? ⟨g, i, none⟩ = false := by
  obtain ⟨g, rfl, hg⟩ := h.rv.cells (by rw [BC.vsR, List.length_map, List.length_map]; omega)
  refine ⟨g, rfl, hg i _ (by rw [BC.vsR, List.getElem?_map, List.getElem?_map, List.getElem?_eq_getElem hi]; rfl), (h.rv.cell (j := i) (by rw [BC.vsR, List.length_map, List.length_map]; exact hi)).2⟩
/-- What at answers. -/
def AtP (L : List Kv) (k : List Int) (w : World) (e : Ending) (w' : World) : Prop := ∃ (i : Nat) (is : Bool), e = .returned (.tuple #[.int .i64 i, .bool is]) ∧ At idc L k i is ∧ ∃ m, w' = w.drewN m
set_option maxRecDepth 100000 in
set_option maxHeartbeats 1000000 in
theorem rAt_any (r : Nat) (S : Nat → Prop) (L : List Kv) (k : Ck) (w : World) (h : RL w S r L) (hs : SortedL idc L) (hl : L.length ≤ 100000) (hk : BC.KRd w k) :
    Calls Try.prog 66 #[.pointer (some ⟨r, 0, none⟩), .slice k.A k.l.length k.c] w (AtP L k.l w) := by
  obtain ⟨K, kA, kc', vA, vc, hc⟩ := h.open
  obtain ⟨c0, -⟩ := hc.cell
  have HKY := Lib.hid (fun i (hi : i < L.length) => hc.key hi)
  have HRC := Lib.hid (fun (key : Ck) (hr : BC.KRd w key) m => refCmpCoords_any k.A key.A k.c key.c k.l key.l (w.drewN m) hk.1 hr.1 (by have := hk.2; omega) (by have := hr.2; omega))
  have HS := Lib.hid hs
  clear h hc hs hk
  generalize k.A = A at HRC ⊢
  generalize k.c = c at HRC ⊢
  generalize k.l = kl at HRC ⊢
  go_enter Try.func66, Try.ntmps66
  go_wp2_with fail
  go_loopw [6] (fun t6 wr => ∃ i : Nat, i ≤ L.length ∧ t6 = .int .i64 i ∧ Hid (∃ m, wr = w.drewN m) ∧ Hid (∀ j (hj : j < L.length), j < i → 0 < kC kl L[j].1)) (fun t6 _ => L.length - (intOf t6).toNat)
  case atStart => exact ⟨0, Nat.zero_le _, rfl, Lib.hid ⟨0, rfl⟩, Lib.hid (fun j hj h => by omega)⟩
  case round =>
    obtain ⟨i, hi, rfl, HW, HP⟩ := hrel
    obtain ⟨m, rfl⟩ := HW.out
    have hsw : ∀ j (hj : j < L.length), kc idc L[j].1 kl = - kC kl L[j].1 := fun j hj => kc_swap _ _ _
    have HSW := Lib.hid hsw
    clear hsw
    by_cases h : i < L.length
    · have g1 : (i : Int) < (L.length : Int) := by omega
      obtain ⟨g, rfl, key, hkey, hkr, d1⟩ := HKY.out i h
      have HCM := Lib.hid (fun m => HRC.out key hkr m)
      obtain ⟨cc, hcc⟩ : ∃ cc, cc = kC kl key.l := ⟨_, rfl⟩
      rw [← hcc] at HCM
      rw [hkey] at hcc
      have HC := Lib.hid hcc
      clear hcc hkr hkey
      by_cases hc0 : cc ≤ 0
      · have HC0 := Lib.hid hc0
        go_wp2_with (go_at_call 14; refine (HCM.out _).mono ?_; rintro e w2 ⟨rfl, n2, rfl⟩)
        go_ret2
        refine ⟨i, _, rfl, at_of HS.out i hi (fun j hj hji => ?_) (fun hj => ?_) _ (fun hj => ?_) (fun e => by omega), _, rfl⟩
        · rw [HSW.out j hj]
          have := HP.out j hj hji
          omega
        · rw [HSW.out i hj, ← HC.out]
          have := HC0.out
          omega
        · rw [HSW.out i hj, ← HC.out]
          by_cases h0 : cc = 0
          · simp [h0]
          · simp [h0]
      · have hc1 : ¬ cc ≤ 0 := hc0
        go_wp2_with (go_at_call 14; refine (HCM.out _).mono ?_; rintro e w2 ⟨rfl, n2, rfl⟩)
        go_roundw
        case measure => simp [intOf]; omega
        case rel => exact ⟨i + 1, by omega, by simp, Lib.hid ⟨_, rfl⟩, Lib.hid (fun j hj hlt => by
          rcases Nat.lt_or_eq_of_le (show j ≤ i by omega) with h2 | rfl
          · exact HP.out j hj h2
          · rw [← HC.out]; omega)⟩
    · have g1 : decide ((i : Int) < (L.length : Int)) = false := decide_eq_false (by omega)
      have g2 : ¬ (i : Int) < (L.length : Int) := by omega
      have e1 : i = L.length := by omega
      have HE := Lib.hid e1
      clear e1
      go_wp2_with fail
      go_ret2
      refine ⟨L.length, false, rfl, at_of HS.out L.length (Nat.le_refl _) (fun j hj hji => ?_) (fun hj => by omega) _ (fun hj => by omega) (fun _ => rfl), _, rfl⟩
      rw [HSW.out j hj]
      have := HP.out j hj (by rw [HE.out]; exact hji)
      omega
theorem RL.drewN {w : World} {S : Nat → Prop} {r : Nat} {L : List Kv} (h : RL w S r L) (n : Nat) : RL (w.drewN n) S r L := by
  obtain ⟨K, ek, h⟩ := h
  obtain ⟨kA, kc, vA, vc, h1, h2, h3, h4, h5, h6⟩ := h.box
  exact ⟨K, ek, ⟨kA, kc, vA, vc, h1, h2.keep fun _ _ _ => rfl, h3.keep fun _ _ _ => rfl, h4, h5, fun k hk => (h6 k hk).keep (fun _ h => h) fun _ _ _ _ => rfl⟩, h.sr⟩
theorem _root_.Go.Proofs.Ytfhonfeopkhdeaa.RBc.drewN {w : World} {S : Nat → Prop} {r : Nat} {K : List Ck} {V : List Int} (h : RBc w S r K V) (n : Nat) : RBc (w.drewN n) S r K V := by
  obtain ⟨kA, kc, vA, vc, h1, h2, h3, h4, h5, h6⟩ := h.box
  exact ⟨⟨kA, kc, vA, vc, h1, h2.keep fun _ _ _ => rfl, h3.keep fun _ _ _ => rfl, h4, h5, fun k hk => (h6 k hk).keep (fun _ h => h) fun _ _ _ _ => rfl⟩, h.sr⟩
/-- More blocks are its own. -/
theorem _root_.Go.Proofs.Ytfhonfeopkhdeaa.RBc.to {w V : World} {S S' : Nat → Prop} {r : Nat} {K : List Ck} {Vs : List Int} (h : RBc w S r K Vs) (hr : r < w.heap.size) (hb : Below w.heap.size w V) (hS : ∀ b, S b → S' b) : RBc V S' r K Vs := by
  obtain ⟨kA, kc, vA, vc, h1, h2, h3, h4, h5, h6⟩ := h.box
  exact ⟨⟨kA, kc, vA, vc, (hb.block r hr).trans h1, h2.keep fun g _ hl => hb.block g hl, h3.keep fun g _ hl => hb.block g hl, fun g hg => hS g (h4 g hg), fun g hg => hS g (h5 g hg), fun k hk => ((h6 k hk).to hb).keep hS fun _ _ _ _ => rfl⟩, hS _ h.sr⟩
set_option maxRecDepth 100000 in
set_option maxHeartbeats 1000000 in
theorem rGet_any (r : Nat) (S : Nat → Prop) (L : List Kv) (k : Ck) (w : World) (h : RL w S r L) (hs : SortedL idc L) (hl : L.length ≤ 100000) (hk : BC.KRd w k) :
    Calls Try.prog 35 #[.pointer (some ⟨r, 0, none⟩), .slice k.A k.l.length k.c] w (BC.GetP (getL idc k.l L) w) := by
  have HAT := Lib.hid (rAt_any r S L k w h hs hl hk)
  obtain ⟨K, kA, kc', vA, vc, hc⟩ := h.open
  obtain ⟨-, c1⟩ := hc.cell
  have HVL := Lib.hid (fun i (hi : i < L.length) => hc.val hi)
  clear h hc hs hk
  go_enter Try.func35, Try.ntmps35
  go_wp2_with fail
  refine HAT.out.mono ?_
  rintro e w1 ⟨i, is, rfl, hat, m, rfl⟩
  cases is with
  | true =>
    have hil := hat.lt
    obtain ⟨I1, a, I2, ei, hl1, hlo, hz⟩ := hat.get
    have hg : getL idc k.l L = some L[i].2 := by
      have e1 : L[i]? = some a := by rw [ei, List.getElem?_append_right (by omega), hl1, Nat.sub_self]; rfl
      rw [List.getElem?_eq_getElem hil] at e1
      rw [Option.some.inj e1]
      conv => lhs; rw [ei]
      exact getL_at hlo hz
    obtain ⟨g, rfl, d1, -⟩ := HVL.out i hil
    have g1 : (i : Int) < (L.length : Int) := by omega
    have HG := Lib.hid hg
    generalize L[i].2 = x at d1 HG
    clear hat hlo hz ei hg
    go_wp2_with fail
    go_ret2
    rw [HG.out]
    exact ⟨rfl, _, rfl⟩
  | false =>
    obtain ⟨I1, I2, ei, hl1, hlo, hhi⟩ := hat.not
    have hg : getL idc k.l L = none := by rw [ei]; exact getL_new hlo hhi
    have HG := Lib.hid hg
    clear hat hlo hhi ei hg
    go_wp2_with fail
    go_ret2
    rw [HG.out]
    exact ⟨rfl, _, rfl⟩
/-- What a change of the list leaves. -/
def RcP (w : World) (S : Nat → Prop) (r : Nat) (L' : List Kv) (v : Value) (e : Ending) (w' : World) : Prop := e = .returned v ∧ ∃ S', RL w' S' r L' ∧ Ch w S w' S'
theorem ins_split {L : List Kv} {k : List Int} {i : Nat} (h : At idc L k i false) (v : Int) : (insL idc k v L).map (·.1) = (L.map (·.1)).take i ++ [k] ++ (L.map (·.1)).drop i ∧ (insL idc k v L).map (·.2) = (L.map (·.2)).take i ++ [v] ++ (L.map (·.2)).drop i ∧ getL idc k L = none := by
  obtain ⟨I1, I2, ei, hl1, hlo, hhi⟩ := h.not
  subst hl1
  rw [ei, insL_new hlo hhi, getL_new hlo hhi]
  refine ⟨?_, ?_, rfl⟩
  · rw [List.map_append, List.map_append, List.take_left' (by rw [List.length_map]), List.drop_left' (by rw [List.length_map])]
    simp
  · rw [List.map_append, List.map_append, List.take_left' (by rw [List.length_map]), List.drop_left' (by rw [List.length_map])]
    simp
theorem at_split {L : List Kv} {k : List Int} {i : Nat} (h : At idc L k i true) (v : Int) : (insL idc k v L).map (·.1) = L.map (·.1) ∧ (insL idc k v L).map (·.2) = (L.map (·.2)).set i v ∧ (delL idc k L).map (·.1) = (L.map (·.1)).take i ++ (L.map (·.1)).drop (i + 1) ∧ (delL idc k L).map (·.2) = (L.map (·.2)).take i ++ (L.map (·.2)).drop (i + 1) ∧ (getL idc k L).isSome = true := by
  obtain ⟨I1, a, I2, ei, hl1, hlo, hz⟩ := h.get
  subst hl1
  rw [ei, insL_at hlo hz, delL_at hlo hz, getL_at hlo hz]
  have d1 : ∀ {α : Type} (f : Kv → α), ((I1 ++ a :: I2).map f).take I1.length ++ ((I1 ++ a :: I2).map f).drop (I1.length + 1) = (I1 ++ I2).map f := fun f => by
    rw [List.map_append, List.map_append, List.map_cons]
    have l0 : I1.length = (I1.map f).length := (List.length_map _).symm
    rw [l0, List.take_left, show I1.map f ++ f a :: I2.map f = (I1.map f ++ [f a]) ++ I2.map f from by simp, show (I1.map f).length + 1 = (I1.map f ++ [f a]).length from by simp, List.drop_left]
  refine ⟨by simp, ?_, (d1 _).symm, (d1 _).symm, rfl⟩
  rw [List.map_append, List.map_append, List.map_cons, List.map_cons, List.set_append_right _ _ (by rw [List.length_map]; exact Nat.le_refl _), List.length_map, Nat.sub_self]
  rfl
theorem vsR_set (l : List Int) (i : Nat) (v : Int) : (BC.vsR l).set i (.int .u64 v) = BC.vsR (l.set i v) := by
  unfold BC.vsR
  rw [List.map_set]
/-- A number in place. -/
theorem RBc.one {w : World} {S : Nat → Prop} {r : Nat} {K : List Ck} {Vs : List Int} {kA vA : Option Addr} {kc vc g : Nat} (hS : S r) (h1 : w.heap[r]? = some (.cells #[.slice kA K.length kc, .slice vA Vs.length vc] 71 (0, 0))) (h2 : Rw w 22 (.slice kA K.length kc) (BC.ksR K)) (h3 : Rw w 38 (.slice vA Vs.length vc) (BC.vsR Vs)) (h4 : ∀ g, (Value.slice kA K.length kc).ownBlock = some g → S g) (h5 : ∀ g, (Value.slice vA Vs.length vc).ownBlock = some g → S g) (h6 : ∀ k ∈ K, Fs w S k) (hg : vA = some ⟨g, 0, none⟩) (i : Nat) (v : Int) :
    RBc (w.setCell ⟨g, i, none⟩ (.int .u64 v)) S r K (Vs.set i v) ∧ Ch w S (w.setCell ⟨g, i, none⟩ (.int .u64 v)) S := by
  subst hg
  obtain ⟨cur, hb⟩ := h3.blk rfl
  have hne : ∀ {b : Nat} {cs : Array Value} {t : TypeId}, w.heap[b]? = some (.cells cs t (0, 0)) → t ≠ 38 → (w.setCell ⟨g, i, none⟩ (.int .u64 v)).heap[b]? = w.heap[b]? := fun hx ht => Below.heap_setCell w ⟨g, i, none⟩ _ _ (blk_ne hx hb ht)
  have h7 := h3.set i (.int .u64 v)
  rw [vsR_set] at h7
  refine ⟨⟨⟨kA, kc, some ⟨g, 0, none⟩, vc, by rw [List.length_set]; exact (hne h1 (by decide)).trans h1, h2.keep fun b hb2 _ => ?_, by rw [List.length_set]; exact h7, h4, by rw [List.length_set]; exact h5, fun k hk => (h6 k hk).one hb fun _ h => h⟩, hS⟩, ⟨rfl, rfl, rfl, by simp [World.setCell], fun b hlt hn => Below.heap_setCell w ⟨g, i, none⟩ _ b (fun e => hn (by rw [e]; exact h5 g rfl)), fun _ h => h, fun _ h => .inl h⟩⟩
  obtain ⟨cs', hc'⟩ := h2.blk hb2
  exact hne hc' (by decide)
set_option maxRecDepth 100000 in
set_option maxHeartbeats 2000000 in
theorem rPut_any (r : Nat) (S : Nat → Prop) (L : List Kv) (k : Ck) (v : Int) (w : World) (h : RL w S r L) (hs : SortedL idc L) (hl : L.length < 65536) (hk : BC.KRd w k) :
    Calls Try.prog 33 #[.pointer (some ⟨r, 0, none⟩), .slice k.A k.l.length k.c, .int .u64 v] w (RcP w S r (insL idc k.l v L) (.tuple #[.bool (getL idc k.l L).isNone, .int .i64 0])) := by
  have HAT := Lib.hid (rAt_any r S L k w h hs (by omega) hk)
  obtain ⟨K, kA, kc', vA, vc, hc⟩ := h.open
  obtain ⟨c0, c1⟩ := hc.cell
  have HVL := Lib.hid (fun i (hi : i < L.length) => hc.val hi)
  have HR := Lib.hid h
  have HKR := Lib.hid hk
  clear h hc hs hk
  go_enter Try.func33, Try.ntmps33
  go_wp2_with fail
  refine HAT.out.mono ?_
  rintro e w1 ⟨i, is, rfl, hat, m, rfl⟩
  cases is with
  | true =>
    have hil := hat.lt
    obtain ⟨a1, a2, -, -, a5⟩ := at_split hat v
    have HA1 := Lib.hid a1
    have HA2 := Lib.hid a2
    have HA5 := Lib.hid a5
    obtain ⟨g, rfl, d1, d2⟩ := HVL.out i hil
    have g1 : (i : Int) < (L.length : Int) := by omega
    generalize L[i].2 = x at d1
    clear hat a1 a2 a5
    go_wp2_with fail
    go_ret2
    have hr := HR.out.drewN m
    obtain ⟨K', ek', hr⟩ := hr
    obtain ⟨kA', kc2, vA', vc2, h1, h2, h3, h4, h5, h5'⟩ := hr.box
    have h6 := blk_cell h1 1
    rw [show (w.drewN m).cell? ⟨r, 1, none⟩ = w.cell? ⟨r, 1, none⟩ from rfl, c1] at h6
    have h7 : vA' = some ⟨g, 0, none⟩ := by
      have h7 := Option.some.inj h6
      exact (Value.slice.inj h7).1.symm
    obtain ⟨h8, h9⟩ := RBc.one hr.sr h1 h2 h3 h4 h5 h5' h7 i v
    rw [← HA2.out] at h8
    refine ⟨?_, _, ⟨K', by rw [HA1.out]; exact ek', h8⟩, (Ch.quiet S ⟨rfl, rfl, rfl, Nat.le_refl _, fun _ _ => rfl⟩ : Ch w S (w.drewN m) S).trans h9⟩
    have : (getL idc k.l L).isNone = false := by
      cases hgl : getL idc k.l L with
      | none => have := HA5.out; rw [hgl] at this; cases this
      | some y => rfl
    rw [this]
    rfl
  | false =>
    obtain ⟨a1, a2, a3⟩ := ins_split hat v
    have hil := hat.le
    have HA2 := Lib.hid a2
    have HA3 := Lib.hid a3
    have n1 : ((L.length : Int) == 65536) = false := beq_eq_false_iff_ne.2 (by omega)
    have n2 : ¬ (L.length : Int) = 65536 := by omega
    obtain ⟨K1, ek1, hb1⟩ := HR.out
    have hb1 := hb1.drewN m
    have hln := len_of ek1
    have hi1 : i ≤ K1.length := by rw [hln]; exact hil
    have hi2 : i ≤ (L.map (·.2)).length := by rw [List.length_map]; exact hil
    have hl1 : K1.length ≤ 100000 := by rw [hln]; omega
    have hl2 : (L.map (·.2)).length ≤ 100000 := by rw [List.length_map]; omega
    have HQ := Lib.hid (And.intro (And.intro hi1 hi2) (And.intro hl1 hl2))
    obtain ⟨A1, k1, w1, ha1, hf1, hbw, -⟩ := BC.fresh_app k.A k.c k.l (w.drewN m) HKR.out.1 HKR.out.2
    have hrl : r < (w.drewN m).heap.size := World.block_lt_of_cell? w _ c0
    have HB1 := Lib.hid (hb1.to (S' := fun b => S b ∨ ((w.drewN m).heap.size ≤ b ∧ b < w1.heap.size)) hrl hbw fun _ h => .inl h)
    have HK1 := Lib.hid (Fs.of hf1 (S := fun b => S b ∨ ((w.drewN m).heap.size ≤ b ∧ b < w1.heap.size)) fun g h1 h2 => .inr ⟨h1, h2⟩)
    have HC1 : Hid (Ch (w.drewN m) S w1 fun b => S b ∨ ((w.drewN m).heap.size ≤ b ∧ b < w1.heap.size)) := Lib.hid ⟨hbw.os, hbw.tape, hbw.output, hbw.size, fun b hlt _ => hbw.block b hlt, fun _ h => .inl h, fun _ h => h⟩
    have HEK : Hid ((K1.take i ++ [(⟨A1, k.l, k1⟩ : Ck)] ++ K1.drop i).map (·.l) = (insL idc k.l v L).map (·.1)) := Lib.hid (by rw [a1, ← ek1]; simp [List.map_take, List.map_drop])
    have HAP := Lib.hid ha1
    have c0' : (w.drewN m).cell? ⟨r, 0, none⟩ = some (.slice kA L.length kc') := c0
    have HCW : Hid (Ch w S (w.drewN m) S) := Lib.hid (Ch.quiet S ⟨rfl, rfl, rfl, Nat.le_refl _, fun _ _ => rfl⟩)
    clear hat a1 a2 a3 hi1 hi2 hl1 hl2 hb1 hln ek1 ha1 hf1 hbw hrl HR HKR
    generalize w.drewN m = wd at *
    go_upto_region 8 with (at_builtin; refine Lib.wpList_append_run _ rfl _ _ _ _ rfl _ _ rfl rfl _ _ HAP.out ?_)
    go_cut [] (fun wc => ∃ S', Hid (RBc wc S' r (K1.take i ++ [(⟨A1, k.l, k1⟩ : Ck)] ++ K1.drop i) (L.map (·.2))) ∧ Hid (Ch w1 (fun b => S b ∨ (wd.heap.size ≤ b ∧ b < w1.heap.size)) wc S'))
    case first =>
      refine cp_8 r i _ K1 (L.map (·.2)) ⟨A1, k.l, k1⟩ HQ.out.1.1 HQ.out.2.1 w1 HB1 HK1 _ _ _ _ _ _ _ _ _ _ _ _ _ _ _ _ _ _ _ _ _ _ _ _ _ _ _ _ _ _ _ _ _ _ _ _ _ _ _ _ _ _ _ _ _ _ _ _ _ _ _ _ _ _ _ _ _ _ _ _ _ _ _ _ _ _ _ _ _ _ _ _ _ ?_
      intro _ _ _ _ _ _ _ _ _ _ _ _ _ _ _ _ _ _ _ _ _ w' hrel'
      go_wp2_with fail
      go_meet
      case rel => exact hrel'
    case rest =>
      obtain ⟨S1, HB2, HC2⟩ := hcut
      clear c0 c1 c0'
      go_upto_region 9 with (fail)
      go_cut [] (fun wc2 => ∃ S', Hid (RBc wc2 S' r (K1.take i ++ [(⟨A1, k.l, k1⟩ : Ck)] ++ K1.drop i) ((L.map (·.2)).take i ++ [v] ++ (L.map (·.2)).drop i)) ∧ Hid (Ch wc S1 wc2 S'))
      case first =>
        refine cp_9 r i S1 _ (L.map (·.2)) v HQ.out.1.2 HQ.out.2.2 wc HB2 _ _ _ _ _ _ _ _ _ _ _ _ _ _ _ _ _ _ _ _ _ _ _ _ _ _ _ _ _ _ _ _ _ _ _ _ _ _ _ _ _ _ _ _ _ _ _ _ _ _ _ _ _ _ _ _ _ _ _ _ _ _ _ _ _ _ _ _ _ _ _ _ _ ?_
        intro _ _ _ _ _ _ _ _ _ _ _ _ _ _ _ _ _ _ _ _ _ w' hrel'
        go_wp2_with fail
        go_meet
        case rel => exact hrel'
      case rest =>
        obtain ⟨S2, HB3, HC3⟩ := hcut
        go_wp2_with fail
        go_ret2
        have h8 := HB3.out
        rw [← HA2.out] at h8
        refine ⟨by rw [HA3.out]; rfl, S2, ⟨_, HEK.out, h8⟩, HCW.out.trans (HC1.out.trans (HC2.out.trans HC3.out))⟩
set_option maxRecDepth 100000 in
set_option maxHeartbeats 2000000 in
theorem rDrop_any (r : Nat) (S : Nat → Prop) (L : List Kv) (k : Ck) (w : World) (h : RL w S r L) (hs : SortedL idc L) (hl : L.length ≤ 100000) (hk : BC.KRd w k) :
    Calls Try.prog 37 #[.pointer (some ⟨r, 0, none⟩), .slice k.A k.l.length k.c] w (RcP w S r (delL idc k.l L) (.bool (getL idc k.l L).isSome)) := by
  have HAT := Lib.hid (rAt_any r S L k w h hs hl hk)
  obtain ⟨K, kA, kc', vA, vc, hc⟩ := h.open
  obtain ⟨c0, c1⟩ := hc.cell
  have HR := Lib.hid h
  clear h hc hs hk
  go_enter Try.func37, Try.ntmps37
  go_wp2_with fail
  refine HAT.out.mono ?_
  rintro e w1 ⟨i, is, rfl, hat, m, rfl⟩
  cases is with
  | true =>
    have hil := hat.lt
    obtain ⟨-, -, a3, a4, a5⟩ := at_split hat 0
    have HA4 := Lib.hid a4
    have HA5 := Lib.hid a5
    obtain ⟨K1, ek1, hb1⟩ := HR.out
    have HB1 : Hid (RBc (w.drewN m) S r K1 (L.map (·.2))) := Lib.hid (hb1.drewN m)
    have HEK : Hid ((K1.take i ++ K1.drop (i + 1)).map (·.l) = (delL idc k.l L).map (·.1)) := Lib.hid (by rw [a3, ← ek1]; simp [List.map_take, List.map_drop])
    have hln := len_of ek1
    have hi1 : i < K1.length := by rw [hln]; exact hil
    have hi2 : i < (L.map (·.2)).length := by rw [List.length_map]; exact hil
    have hl1 : K1.length ≤ 100000 := by rw [hln]; omega
    have hl2 : (L.map (·.2)).length ≤ 100000 := by rw [List.length_map]; omega
    have HQ := Lib.hid (And.intro (And.intro hi1 hi2) (And.intro hl1 hl2))
    clear hat a3 a4 a5 hi1 hi2 hl1 hl2 c0 c1 ek1 hb1 hln
    go_upto_region 3 with (fail)
    go_cut [] (fun wc => ∃ S', Hid (RBc wc S' r (K1.take i ++ K1.drop (i + 1)) (L.map (·.2))) ∧ Hid (Ch (w.drewN m) S wc S'))
    case first =>
      refine cd_3 r i S K1 (L.map (·.2)) HQ.out.1.1 HQ.out.2.1 (w.drewN m) HB1 _ _ _ _ _ _ _ _ _ _ _ _ _ _ _ _ _ _ _ _ _ _ _ _ _ _ _ _ _ _ _ _ _ _ _ _ _ _ _ _ _ _ _ _ _ _ _ _ _ _ _ ?_
      intro _ _ _ _ _ _ _ _ _ _ _ _ _ _ _ _ _ _ _ w' hrel'
      go_wp2_with fail
      go_meet
      case rel => exact hrel'
    case rest =>
      obtain ⟨S1, HB2, HC2⟩ := hcut
      go_upto_region 4 with (fail)
      go_cut [] (fun wc2 => ∃ S', Hid (RBc wc2 S' r (K1.take i ++ K1.drop (i + 1)) ((L.map (·.2)).take i ++ (L.map (·.2)).drop (i + 1))) ∧ Hid (Ch wc S1 wc2 S'))
      case first =>
        refine cd_4 r i S1 _ (L.map (·.2)) HQ.out.1.2 HQ.out.2.2 wc HB2 _ _ _ _ _ _ _ _ _ _ _ _ _ _ _ _ _ _ _ _ _ _ _ _ _ _ _ _ _ _ _ _ _ _ _ _ _ _ _ _ _ _ _ _ _ _ _ _ _ _ _ ?_
        intro _ _ _ _ _ _ _ _ _ _ _ _ _ _ _ _ _ _ _ w' hrel'
        go_wp2_with fail
        go_meet
        case rel => exact hrel'
      case rest =>
        obtain ⟨S2, HB3, HC3⟩ := hcut
        go_wp2_with fail
        go_ret
        have h8 := HB3.out
        rw [← HA4.out] at h8
        exact ⟨by rw [HA5.out]; rfl, S2, ⟨_, HEK.out, h8⟩, (Ch.quiet S ⟨rfl, rfl, rfl, Nat.le_refl _, fun _ _ => rfl⟩ : Ch w S (w.drewN m) S).trans (HC2.out.trans HC3.out)⟩
  | false =>
    obtain ⟨I1, I2, ei, hl1, hlo, hhi⟩ := hat.not
    have hg : getL idc k.l L = none := by rw [ei]; exact getL_new hlo hhi
    have hd : delL idc k.l L = L := by
      rw [ei, delL_lo hlo]
      cases I2 with
      | nil => rfl
      | cons b s => exact congrArg (I1 ++ ·) (if_pos (hhi b List.mem_cons_self))
    have HG := Lib.hid hg
    have HD := Lib.hid hd
    clear hat hlo hhi ei hg hd
    go_wp2_with fail
    go_ret
    rw [HG.out, HD.out]
    exact ⟨rfl, S, HR.out.drewN m, Ch.quiet S ⟨rfl, rfl, rfl, Nat.le_refl _, fun _ _ => rfl⟩⟩
set_option maxRecDepth 100000 in
set_option maxHeartbeats 2000000 in
theorem rSpan_any (r : Nat) (S : Nat → Prop) (L : List Kv) (low high : Ck) (w : World) (h : RL w S r L) (hl : L.length ≤ 100000) (hlo : BC.KRd w low) (hhi : BC.KRd w high) :
    Calls Try.prog 42 #[.pointer (some ⟨r, 0, none⟩), .slice low.A low.l.length low.c, .slice high.A high.l.length high.c] w (BC.SpanP ((L.map (·.1)).filter fun k => !BC.outC low.l high.l k) w) := by
  obtain ⟨K, kA, kc', vA, vc, hc⟩ := h.open
  have HC := Lib.hid (fun W (hW : Below w.heap.size w W) => show W.cell? ⟨r, 0, none⟩ = some (.slice kA L.length kc') from (hW.cell (World.block_lt_of_cell? w _ hc.cell.1)).trans hc.cell.1)
  have HKY := Lib.hid (fun i (hi : i < L.length) => show ∃ g, kA = some ⟨g, 0, none⟩ ∧ ∃ key : Ck, key.l = L[i].1 ∧ ∀ W, Below w.heap.size w W → BC.KRd W key ∧ W.cell? ⟨g, i, none⟩ = some (.slice key.A key.l.length key.c) from by
    obtain ⟨g, e, key, e2, hr, h1⟩ := hc.key hi
    exact ⟨g, e, key, e2, fun W hW => ⟨hr.below hW (Nat.le_refl _), (hW.cell (World.block_lt_of_cell? w _ h1)).trans h1⟩⟩)
  have HLO := Lib.hid (fun W (hW : Below w.heap.size w W) => And.intro (hlo.below hW (Nat.le_refl _)) (hhi.below hW (Nat.le_refl _)))
  have HCMP := Lib.hid (fun (a b : Ck) (W : World) (ha : BC.KRd W a) (hb : BC.KRd W b) => refCmpCoords_any a.A b.A a.c b.c a.l b.l W ha.1 hb.1 (by have := ha.2; omega) (by have := hb.2; omega))
  obtain ⟨i0, hi0, hz0, hz1, hz2⟩ := info_parts infoBC
  clear h hc hlo hhi
  go_enter Try.func42, Try.ntmps42
  go_wp2_with fail
  go_loopw [7, 8] (fun t7 t8 wr => ∃ i : Nat, ∃ v7, ∃ X : List Ck, v7 = t7 ∧ i ≤ L.length ∧ X.length ≤ i ∧ t8 = .int .i64 i ∧ Hid (X.map (·.l) = (((L.take i).map (·.1)).filter fun k => !BC.outC low.l high.l k)) ∧ Hid (wr.ownsRow w.heap.size 22 1 v7 X.length (BC.ksR X)) ∧ Hid (∀ k ∈ X, BC.Fk w.heap.size wr k) ∧ Hid (Below w.heap.size w wr)) (fun _ t8 _ => L.length - (intOf t8).toNat)
  case atStart => exact ⟨0, _, [], rfl, Nat.zero_le _, Nat.zero_le _, rfl, Lib.hid (by simp), Lib.hid (World.ownsRow_nil _ _ _ _), Lib.hid (fun k hk => by cases hk), Lib.hid (Below.refl _ _)⟩
  case round =>
    obtain ⟨i, v7, X, rfl, hi, hX, rfl, HX, HO, HF, HB⟩ := hrel
    have c0 := HC.out _ HB.out
    by_cases h : i < L.length
    · have g1 : (i : Int) < (L.length : Int) := by omega
      obtain ⟨g, rfl, key, hkey, hky⟩ := HKY.out i h
      have HKW := Lib.hid hky
      obtain ⟨hkr, d1⟩ := hky _ HB.out
      have HC1 := Lib.hid (HCMP.out key low wr hkr (HLO.out _ HB.out).1)
      have HC2 := Lib.hid (fun n => HCMP.out key high (wr.drewN n) (hkr.drewN n) ((HLO.out _ HB.out).2.drewN n))
      have HTK := Lib.hid (show (((L.take (i + 1)).map (·.1)).filter fun k => !BC.outC low.l high.l k) = (((L.take i).map (·.1)).filter fun k => !BC.outC low.l high.l k) ++ (if BC.outC low.l high.l key.l then [] else [key.l]) by
        rw [List.take_add_one, List.getElem?_eq_getElem h, List.map_append, List.filter_append, hkey]
        cases hP : BC.outC low.l high.l L[i].1 <;> simp [hP])
      have hdn : ∀ n, Below w.heap.size w (wr.drewN n) := fun n => HB.out.trans ⟨rfl, rfl, rfl, Nat.le_refl _, fun _ _ => rfl⟩
      have HDN := Lib.hid hdn
      have HFN := Lib.hid (show ∀ n, ∀ k ∈ X, BC.Fk w.heap.size (wr.drewN n) k from fun n k hk => (HF.out k hk).keep (Nat.le_refl _) fun _ _ _ _ => rfl)
      clear hdn hky hkr hkey
      have HOD := Lib.hid (show BC.outC low.l high.l key.l = (decide (kC key.l low.l < 0) || decide (0 ≤ kC key.l high.l)) from rfl)
      generalize BC.outC low.l high.l key.l = ob at HTK HOD
      generalize kC key.l low.l = e1 at HC1 HOD
      generalize kC key.l high.l = e2 at HC2 HOD
      by_cases q1 : e1 < 0
      · have q2 : decide (0 ≤ e1) = false := decide_eq_false (by omega)
        have q3 : ¬ 0 ≤ e1 := by omega
        have HOB : Hid (ob = true) := Lib.hid (by rw [HOD.out, decide_eq_true q1]; rfl)
        clear q1
        go_wp2_with (go_at_call 14; refine HC1.out.mono ?_; rintro e w2 ⟨rfl, n2, rfl⟩)
        go_roundw
        case measure => simp [intOf]; omega
        case rel => exact ⟨i + 1, v7, X, rfl, by omega, by omega, by simp, Lib.hid (by rw [HTK.out, HOB.out, HX.out]; simp), Lib.hid (BS.ownsRow_keep HO.out fun _ _ _ => rfl), Lib.hid (HFN.out _), Lib.hid (HDN.out _)⟩
      · have q2 : 0 ≤ e1 := by omega
        by_cases q4 : e2 < 0
        · have HOB : Hid (ob = false) := Lib.hid (by rw [HOD.out, decide_eq_false q1, decide_eq_false (by omega)]; rfl)
          clear q1
          go_wp2_with fail
          refine HC1.out.mono ?_
          rintro e w2 ⟨rfl, n2, rfl⟩
          clear HC1
          go_upto_region 6 with (go_at_call 14; refine (HC2.out _).mono ?_; rintro e w3 ⟨rfl, n3, rfl⟩)
          generalize hq : World.drewN _ _ = wq
          have hqb : Below wr.heap.size wr wq := by rw [← hq]; exact ⟨rfl, rfl, rfl, Nat.le_refl _, fun _ _ => rfl⟩
          clear hq
          have hqw := HB.out.trans (hqb.mono HB.out.size)
          have hal : Below w.heap.size w (wq.alloc (.cells #[] 3)) := hqw.alloc hqw.size _
          have c5 := HC.out _ hal
          obtain ⟨-, d6⟩ := HKW.out _ hal
          obtain ⟨A1, k1, w6, ha1, hf1, hb6, -⟩ := BC.fresh_app key.A key.c key.l wq (HKW.out _ hqw).1.1 (HKW.out _ hqw).1.2
          have HAP := Lib.hid ha1
          have hsz : w.heap.size ≤ wr.heap.size := HB.out.size
          have hbr : Below wr.heap.size wr w6 := hqb.trans (hb6.mono hqb.size)
          have hba : Below wr.heap.size wr (w6.alloc (.cells #[.slice A1 key.l.length k1] 22)) := hbr.alloc hbr.size _
          obtain ⟨g7, cap7, w7, hrun, hown, hgrow, hat, hlt7⟩ := run_append_lies (P := Try.prog) _ 69 69 w.heap.size 22 i0 _ 1 24 Try.underlying69 hi0 hz0 hz1 hz2 rfl (by decide) v7 X.length (BC.ksR X) (BS.ownsRow_keep HO.out fun g _ hl => hba.block g hl) ⟨w6.heap.size, 0, none⟩ 1 1 [.slice A1 key.l.length k1] rfl (World.news_of_block (BS.top_blk _ _ _)) (by simp [Value.oneCell']) (by decide) (by simp only [maxLen]; omega) (by omega) (by have := hba.size; omega) _ rfl
          have HRUN := Lib.hid hrun
          have HO7 := Lib.hid hown
          have HB7 := Lib.hid (HB.out.trans ((hba.mono hsz).trans ⟨hgrow.os, hgrow.tape, hgrow.output, hgrow.size, fun b hb => hgrow.block b (by have := hba.size; omega) (fun e => by
            have := (World.ownsRow.lt HO.out b e.symm).1
            omega)⟩))
          have HF7 : Hid (∀ k ∈ X ++ [(⟨A1, key.l, k1⟩ : Ck)], BC.Fk w.heap.size w7 k) := Lib.hid fun k hk => by
            have hgk : BC.Fk w.heap.size (w6.alloc (.cells #[.slice A1 key.l.length k1] 22)) k := by
              rcases List.mem_append.1 hk with hk | hk
              · exact (HF.out k hk).below hba
              · rw [List.mem_singleton.1 hk]
                exact (hf1.keep (w' := w6) (B' := w.heap.size) (Nat.le_trans hsz hqb.size) fun _ _ _ _ => rfl).below ((Below.refl _ _).alloc (Nat.le_refl _) _)
            refine hgk.keep (Nat.le_refl _) fun g2 cur hc2 _ => hgrow.block g2 (Array.getElem?_eq_some_iff.1 hc2).1 fun e => ?_
            obtain ⟨cs, h1⟩ := BS.ownsRow_is HO.out e.symm
            exact blk_ne hc2 ((hba.block g2 (Array.getElem?_eq_some_iff.1 h1).1).trans h1) (by decide) rfl
          have HLX := Lib.hid (show (X ++ [(⟨A1, key.l, k1⟩ : Ck)]).length = X.length + 1 ∧ BC.ksR (X ++ [(⟨A1, key.l, k1⟩ : Ck)]) = BC.ksR X ++ [.slice A1 key.l.length k1] by simp [BC.ksR, BC.kv])
          clear hrun hown hgrow hat hlt7 hba hsz ha1 hf1 hb6 hbr hal hqw hqb
          go_wp2_with (at_builtin; first | (refine Lib.wpList_append_run _ rfl _ _ _ _ rfl _ _ rfl rfl _ _ HAP.out ?_) | (refine Lib.wpList_append_run _ rfl _ _ _ _ rfl _ _ rfl rfl _ _ HRUN.out ?_))
          go_roundw
          case measure => simp [intOf]; omega
          case rel =>
            refine ⟨i + 1, _, X ++ [(⟨A1, key.l, k1⟩ : Ck)], rfl, by omega, by rw [HLX.out.1]; omega, by simp, Lib.hid (by rw [HTK.out, HOB.out, List.map_append, HX.out]; simp), Lib.hid ?_, HF7, HB7⟩
            rw [HLX.out.1, HLX.out.2]
            exact HO7.out
        · have HOB : Hid (ob = true) := Lib.hid (by rw [HOD.out, decide_eq_false q1, decide_eq_true (show 0 ≤ e2 by omega)]; rfl)
          have q5 : decide (e2 < 0) = false := decide_eq_false q4
          clear q1
          go_wp2_with fail
          refine HC1.out.mono ?_
          rintro e w2 ⟨rfl, n2, rfl⟩
          clear HC1
          go_wp2_with (go_at_call 14; refine (HC2.out _).mono ?_; rintro e w3 ⟨rfl, n3, rfl⟩)
          go_roundw
          case measure => simp [intOf]; omega
          case rel => exact ⟨i + 1, v7, X, rfl, by omega, by omega, by simp, Lib.hid (by rw [HTK.out, HOB.out, HX.out]; simp), Lib.hid (BS.ownsRow_keep HO.out fun _ _ _ => rfl), Lib.hid (by first | exact HFN.out _ | exact fun k hk => (HF.out k hk).keep (Nat.le_refl _) fun _ _ _ _ => rfl), Lib.hid (by first | exact HDN.out _ | exact (HDN.out 0).trans ⟨rfl, rfl, rfl, Nat.le_refl _, fun _ _ => rfl⟩)⟩
    · have g1 : decide ((i : Int) < (L.length : Int)) = false := decide_eq_false (by omega)
      have g2 : ¬ (i : Int) < (L.length : Int) := by omega
      have HE : Hid (X.map (·.l) = ((L.map (·.1)).filter fun k => !BC.outC low.l high.l k)) := Lib.hid (by rw [HX.out, List.take_of_length_le (by omega)])
      have hfm := (Rw.of_own HO.out).form
      obtain ⟨A9, c9, e9, -⟩ := hfm
      have hx9 : (BC.ksR X).length = X.length := List.length_map _
      rw [hx9] at e9
      subst e9
      have HL9 : Hid (X.length = ((L.map (·.1)).filter fun k => !BC.outC low.l high.l k).length) := Lib.hid (by rw [← HE.out, List.length_map])
      go_wp2_with fail
      go_ret
      have hrw := Rw.of_own HO.out
      rw [HL9.out] at hrw ⊢
      exact ⟨A9, c9, X, rfl, HE.out, hrw, HF.out, HB.out⟩
end Go.Proofs.Ytfhonfeopkhdeaa.RC
