/- Layer 14: NetOrder, its sending loop. -/
import Derived.Test.YtgmaknppneonfaaScG
set_option linter.unusedSimpArgs false
set_option linter.unusedVariables false
set_option maxHeartbeats 40000000
namespace Go.Eng.SeatC
open Go.Proofs
def pick6 (x : Int) : Int := if x.tmod 6 < 0 then x.tmod 6 + 6 else x.tmod 6
theorem pick6_of (x : Int) : pick6 x = 0 ∨ pick6 x = 1 ∨ pick6 x = 2 ∨ pick6 x = 3 ∨ pick6 x = 4 ∨ pick6 x = 5 := by
  unfold pick6
  have h1 := Int.tmod_lt_of_pos x (show (0 : Int) < 6 by omega)
  have h2 : -6 < x.tmod 6 := Int.lt_tmod_of_pos x (by omega)
  split <;> omega
theorem pick12_6 {H : AHeap} (x : Int) : denF none2 none2 c12 [.int .i64 x, .int .i64 6] H = some (.int .i64 (pick6 x), H) := by
  have h1 := Int.tmod_lt_of_pos x (show (0 : Int) < 6 by omega)
  have h2 : -6 < x.tmod 6 := Int.lt_tmod_of_pos x (by omega)
  have hw : IntKind.i64.wrap (x.tmod 6 + 6) = x.tmod 6 + 6 := by rw [IntKind.wrap_i64]; omega
  unfold pick6
  unfold c12
  by_cases h : x.tmod 6 < 0
  · simp (maxSteps := 10000000) +contextual [go_sem, h, hw]
  · simp (maxSteps := 10000000) +contextual [go_sem, h, hw]
/-- The calls that are handed in: of each its I. -/
def ActsI (H : AHeap) (b o n : Nat) (f : Nat → Int) : Prop := n = 0 ∨ ∃ L e es, H.get b = .cells L e es .ro ∧ ∀ i, i < n → L[o + i * 5 + 1]? = some (.int .i64 (f i))
def lkc : List AVal := [.int .i64 0, .int .i64 1, .int .i64 0, .int .i64 2, .int .i64 1, .int .i64 0, .int .i64 1, .int .i64 2, .int .i64 2, .int .i64 0, .int .i64 2, .int .i64 1]
def cbc (c0 c1 c2 c3 c4 c5 : Bool) : List AVal := [.bool c0, .bool c1, .bool c2, .bool c3, .bool c4, .bool c5]
structure EV (H : AHeap) (bl o n : Nat) (f : Nat → Int) (cb lk q : Nat) (c0 c1 c2 c3 c4 c5 : Bool) : Prop where
  ms : ActsI H bl o n f
  lb : bl < H.n
  lc : cb < H.n
  hc : H.get cb = .cells (cbc c0 c1 c2 c3 c4 c5) 23 6 .fixed
  ll : lk < H.n
  hl : H.get lk = .cells lkc 27 2 .fixed
  lq : q < H.n
  hq : ∃ L, H.get q = .cells L 56 12 .fixed
theorem ne_get {H : AHeap} {a b : Nat} {x y : ABlk} (ha : H.get a = x) (hb : H.get b = y) (h : x ≠ y) : a ≠ b := fun e => h (by rw [← ha, ← hb, e])
/-- What lies elsewhere stays. -/
theorem EV.keep {H H' : AHeap} {bl o n : Nat} {f : Nat → Int} {cb lk q : Nat} {c0 c1 c2 c3 c4 c5 : Bool} (E : EV H bl o n f cb lk q c0 c1 c2 c3 c4 c5) (hn : H.n ≤ H'.n) (hq' : ∃ L, H'.get q = .cells L 56 12 .fixed)
    (fr : ∀ z, z < H.n → z ≠ q → (∀ L, H.get z ≠ .cells L 39 3 .elastic) → (∀ L, H.get z ≠ .cells L 3 1 .elastic) → H'.get z = H.get z) : EV H' bl o n f cb lk q c0 c1 c2 c3 c4 c5 := by
  obtain ⟨ms, lb, lc, hc, ll, hl, lq, ⟨Q, hq⟩⟩ := E
  refine ⟨?_, by omega, by omega, (fr cb lc (ne_get hc hq (by simp)) (by simp [hc]) (by simp [hc])).trans hc, by omega, (fr lk ll (ne_get hl hq (by simp)) (by simp [hl]) (by simp [hl])).trans hl, by omega, hq'⟩
  rcases ms with h | ⟨L, e, es, h1, h2⟩
  · exact .inl h
  · exact .inr ⟨L, e, es, (fr bl lb (ne_get h1 hq (by simp)) (by simp [h1]) (by simp [h1])).trans h1, h2⟩
theorem PkOK.keep {H H' : AHeap} {p : Pk} {q : Nat} (h : PkOK H p) (hn : H.n ≤ H'.n) (hq : ∃ L, H.get q = .cells L 56 12 .fixed)
    (fr : ∀ z, z < H.n → z ≠ q → (∀ L, H.get z ≠ .cells L 39 3 .elastic) → (∀ L, H.get z ≠ .cells L 3 1 .elastic) → H'.get z = H.get z) : PkOK H' p := by
  obtain ⟨h1, h2, h3, h4⟩ := h
  obtain ⟨Q, hq⟩ := hq
  exact ⟨h1, h2, by omega, (fr _ h3 (ne_get h4 hq (by simp)) (by simp [h4]) (by simp [h4])).trans h4⟩
theorem WantOK.keep {H H' : AHeap} {want : AVal} {ws : List Nat} (h : WantOK H want ws) (hn : H.n ≤ H'.n) (fr : ∀ z L, z < H.n → H.get z = .cells L 3 1 .elastic → H'.get z = H.get z) : WantOK H' want ws := by
  rcases h with h | ⟨t, h0, h1, h2, h3⟩
  · exact .inl h
  · exact .inr ⟨t, h0, h1, by omega, (fr t _ h2 h3).trans h3⟩
structure JO (H : AHeap) (bl o n : Nat) (f : Nat → Int) (cb lk q : Nat) (c0 c1 c2 c3 c4 c5 : Bool) (way want : AVal) (ps : List Pk) (lost : Int) (i : Nat) : Prop where
  ev : EV H bl o n f cb lk q c0 c1 c2 c3 c4 c5
  hq : H.get q = .cells (nbc c0 c1 c2 c3 c4 c5 way lost) 56 12 .fixed
  w : WayS H way ps
  t : WantOK H want (ps.map (·.i))
  pk : ∀ p ∈ ps, PkOK H p
  lost : lost = (i : Int) - ps.length
  le : ps.length ≤ i
  i : i ≤ 100
def Ω4 : Phi := updP (updP (updP (updP (updP (updP none2 10 (denF none2 none2 c10)) 12 (denF none2 none2 c12)) 13 (denF Ω0 none2 c13)) 14 (denF Ω0 none2 c14)) 15 (denF Ω0 none2 c15)) 9 (pspec rTrue9)
theorem oko4 : ∀ f, Sound Try.prog f (Ω4 f) := updP_ok (updP_ok (updP_ok (updP_ok (updP_ok (updP_ok none_sound (fun_sound none_sound none_soundD mixed Try.func10 cal10 comp10)) (fun_sound none_sound none_soundD mixed Try.func12 cal12 comp12)) (fun_sound oko0 none_soundD mixed Try.func13 cal13 comp13)) (fun_sound oko0 none_soundD mixed Try.func14 cal14 comp14)) (fun_sound oko0 none_soundD mixed Try.func15 cal15 comp15)) s9
def Ω5 : Phi := updP (updP Ω4 11 (denF Ω0 none2 c11)) 16 (denF (updP (updP none2 18 (denF Ω1 none2 c18)) 29 (denF none2 none2 c29)) none2 c16)
theorem oko5 : ∀ f, Sound Try.prog f (Ω5 f) := updP_ok (updP_ok oko4 (fun_sound oko0 none_soundD mixed Try.func11 cal11 comp11)) (fun_sound (updP_ok (updP_ok none_sound (fun_sound oko1 none_soundD mixed Try.func18 cal18 comp18)) (fun_sound none_sound none_soundD mixed Try.func29 cal29 comp29)) none_soundD mixed Try.func16 cal16 comp16)
theorem o5_12 (l : List AVal) (H : AHeap) : Ω5 12 l H = denF none2 none2 c12 l H := (rfl)
theorem o5_13 (l : List AVal) (H : AHeap) : Ω5 13 l H = denF Ω0 none2 c13 l H := (rfl)
theorem o5_10 (l : List AVal) (H : AHeap) : Ω5 10 l H = denF none2 none2 c10 l H := (rfl)
theorem o5_14 (l : List AVal) (H : AHeap) : Ω5 14 l H = denF Ω0 none2 c14 l H := (rfl)
theorem o5_15 (l : List AVal) (H : AHeap) : Ω5 15 l H = denF Ω0 none2 c15 l H := (rfl)
theorem o5_9 (l : List AVal) (H : AHeap) : Ω5 9 l H = pspec rTrue9 l H := (rfl)
theorem o5_11 (l : List AVal) (H : AHeap) : Ω5 11 l H = denF Ω0 none2 c11 l H := (rfl)
theorem o5_16 (l : List AVal) (H : AHeap) : Ω5 16 l H = denF (updP (updP none2 18 (denF Ω1 none2 c18)) 29 (denF none2 none2 c29)) none2 c16 l H := (rfl)
abbrev tmS (bl o n : Nat) (c : Option Nat) (cb lk q : Nat) (want : AVal) (i : Nat) : Tm := [(0, .sl bl o n c), (3, .ptr cb 0), (5, .bool true), (6, .ptr q 0), (7, .sl lk 0 6 (some 6)), (9, want), (10, .int .i64 i)]
theorem JO.push {H : AHeap} {bl o n : Nat} {f : Nat → Int} {cb lk q : Nat} {c0 c1 c2 c3 c4 c5 : Bool} {way want : AVal} {ps : List Pk} {lost : Int} {i : Nat} (J : JO H bl o n f cb lk q c0 c1 c2 c3 c4 c5 way want ps lost i) (x : ABlk) : JO (H.push x) bl o n f cb lk q c0 c1 c2 c3 c4 c5 way want ps lost i := by
  have e : ∀ z, z < H.n → (H.push x).get z = H.get z := fun z h => by rw [AHeap.get_push, if_neg (by omega)]
  have lq := J.ev.lq
  refine ⟨J.ev.keep (by simp) ⟨_, (e q lq).trans J.hq⟩ fun z h _ _ _ => e z h, (e q lq).trans J.hq, ?_, J.t.keep (by simp) fun z _ h _ => e z h, fun p hp => (J.pk p hp).keep (by simp) ⟨_, J.hq⟩ fun z h _ _ _ => e z h, J.lost, J.le, J.i⟩
  rcases J.w with h | ⟨w, h0, h1, h2, h3⟩
  · exact .inl h
  · exact .inr ⟨w, h0, h1, by simp; omega, (e w h2).trans h3⟩
theorem stepO0 {H : AHeap} {bl o n : Nat} {c : Option Nat} {f : Nat → Int} {cb lk q : Nat} {c0 c1 c2 c3 c4 c5 : Bool} {way want : AVal} {ps : List Pk} {lost : Int} {i : Nat} (J : JO H bl o n f cb lk q c0 c1 c2 c3 c4 c5 way want ps lost i) (hi : i < n) (hn : n ≤ 100) (hk : pick6 (f i) = 0) :
    ∃ H' way' want' ps' lost', JO H' bl o n f cb lk q c0 c1 c2 c3 c4 c5 way' want' ps' lost' (i + 1) ∧
      aden Ω5 b3_1 ⟨tmS bl o n c cb lk q want i, H, []⟩ = some (.normal, ⟨tmS bl o n c cb lk q want' (i + 1), H', []⟩) := by
  have hi100 := J.i
  have hle := J.le
  have hwi : IntKind.u8.wrap (i : Int) = i := by simp [IntKind.wrap, IntKind.bits, IntKind.signed]; omega
  have hwk : IntKind.u8.wrap 0 = 0 := by simp [IntKind.wrap, IntKind.bits, IntKind.signed]
  have hw : IntKind.i64.wrap ((i : Int) + 1) = ((i : Int) + 1) := by rw [IntKind.wrap_i64]; omega
  have h1 : (i : Int) < (n : Int) := by omega
  have hp := fun G => pick12_6 (H := G) (f i)
  rw [hk] at hp
  have J1 := J.push (.cells [.int .u8 i, .int .u8 0] 5 1 .fixed)
  have lq := J.ev.lq
  obtain ⟨H1, e1, n1, z1, way', b', g1, g2⟩ := send0 (b := H.n) (i := i) J1.ev.lq J1.hq J1.w (by omega) (by rw [AHeap.get_push, if_pos rfl]) (by simp) (by omega) (by have := J.lost; omega)
  have n1' : H.n + 1 ≤ H1.n := by simpa using n1
  have fr1 : ∀ z, z < (H.push (.cells [.int .u8 i, .int .u8 0] 5 1 .fixed)).n → z ≠ q → (∀ L, (H.push (.cells [.int .u8 i, .int .u8 0] 5 1 .fixed)).get z ≠ .cells L 39 3 .elastic) → (∀ L, (H.push (.cells [.int .u8 i, .int .u8 0] 5 1 .fixed)).get z ≠ .cells L 3 1 .elastic) → H1.get z = (H.push (.cells [.int .u8 i, .int .u8 0] 5 1 .fixed)).get z := fun z hz hq h39 _ => z1 z hz hq (J1.w.ne rfl h39)
  have E1 := J1.ev.keep n1 ⟨_, g1⟩ fr1
  have pk1 : ∀ p ∈ ps, PkOK H1 p := fun p hp => (J1.pk p hp).keep n1 ⟨_, J1.hq⟩ fr1
  have t1 : WantOK H1 want (ps.map (·.i)) := J1.t.keep n1 fun z L hz h => z1 z hz (ne_get h J1.hq (by simp)) (J1.w.ne h (by simp))
  rcases J.ev.ms with h0 | ⟨L, te, tes, hg, hf⟩
  · omega
  have hx := hf i hi
  have hc := J.ev.hc
  have hl := J.ev.hl
  have hc1 := E1.hc
  have lc := J.ev.lc
  have ll := J.ev.ll
  have lc1 := E1.lc
  have lcn : cb < H.n + 1 := by omega
  have lln : lk < H.n + 1 := by omega
  have d1 : ¬ cb = H.n := by omega
  have d2 : ¬ lk = H.n := by omega
  have hl1 := E1.hl
  have ll1 := E1.ll
  cases hcut : c0 with
  | true =>
    subst hcut
    simp only [if_true] at g1 g2
    obtain ⟨rfl, g3, g4⟩ := g2
    refine ⟨H1, way', want, ps, lost + 1, ⟨E1, g1, ?_, t1, pk1, by have := J.lost; omega, by omega, by omega⟩, ?_⟩
    · rcases J1.w with h | ⟨w, a0, a1, a2, a3⟩
      · exact .inl h
      · exact .inr ⟨w, a0, a1, by omega, (g4 w (ne_get a3 J1.hq (by simp))).trans a3⟩
    · unfold cbc at hc hc1
      unfold lkc at hl hl1
      unfold b3_1 tmS
      simp (maxSteps := 10000000) +contextual [go_sem, hg, hx, hi, h1, hp, hwi, hwk, hw, o5_12, o5_13, e1, hc, hl, hc1, hl1, lc, ll, lc1, ll1, lcn, lln, d1, d2]
  | false =>
    subst hcut
    rw [if_neg (by simp)] at g1 g2
    obtain ⟨ws, pkn⟩ := g2
    have tt : WantOK (H1.push (.cells [.int .i64 i] 3 1 .fixed)) want (ps.map (·.i)) := t1.keep (by simp) fun z L hz _ => by rw [AHeap.get_push, if_neg (by omega)]
    obtain ⟨H2, e2, n2, z2, w2⟩ := wants_app (s := H1.n) (i := i) tt (by rw [AHeap.get_push, if_pos rfl]) (by simp; omega)
    simp only [AHeap.n_push, List.length_map] at e2 n2 z2 w2
    have z2' : ∀ z, z < H1.n → (∀ m, want ≠ .sl z 0 m none) → H2.get z = H1.get z := fun z hz h => (z2 z (by omega) h).trans (by rw [AHeap.get_push, if_neg (by omega)])
    have fr2 : ∀ z, z < H1.n → z ≠ q → (∀ L, H1.get z ≠ .cells L 39 3 .elastic) → (∀ L, H1.get z ≠ .cells L 3 1 .elastic) → H2.get z = H1.get z := fun z hz _ _ h3 => z2' z hz (t1.ne rfl h3)
    have q2 : H2.get q = _ := (z2' q (by omega) (t1.ne g1 (by simp))).trans g1
    have E2 := E1.keep (by omega) ⟨_, q2⟩ fr2
    refine ⟨H2, way', .sl (H1.n + 1) 0 (ps.length + 1) none, ps ++ [⟨0, i, b'⟩], lost, ⟨E2, q2, ?_, by simpa using w2, ?_, by have := J.lost; simp; omega, by simp; omega, by omega⟩, ?_⟩
    · rcases ws with ⟨h, _⟩ | ⟨w, a0, a1, a2, a3⟩
      · simp at h
      · exact .inr ⟨w, a0, a1, by omega, (z2' w a2 (t1.ne a3 (by simp))).trans a3⟩
    · intro p hp
      rcases List.mem_append.1 hp with h | h
      · exact (pk1 p h).keep (by omega) ⟨_, g1⟩ fr2
      · rw [List.mem_singleton.1 h]
        exact pkn.keep (by omega) ⟨_, g1⟩ fr2
    · unfold cbc at hc hc1
      unfold lkc at hl hl1
      unfold b3_1 tmS
      simp (maxSteps := 10000000) +contextual [go_sem, hg, hx, hi, h1, hp, hwi, hwk, hw, o5_12, o5_13, e1, e2, hc, hl, hc1, hl1, lc, ll, lc1, ll1, lcn, lln, d1, d2]
theorem stepO1 {H : AHeap} {bl o n : Nat} {c : Option Nat} {f : Nat → Int} {cb lk q : Nat} {c0 c1 c2 c3 c4 c5 : Bool} {way want : AVal} {ps : List Pk} {lost : Int} {i : Nat} (J : JO H bl o n f cb lk q c0 c1 c2 c3 c4 c5 way want ps lost i) (hi : i < n) (hn : n ≤ 100) (hk : pick6 (f i) = 1) :
    ∃ H' way' want' ps' lost', JO H' bl o n f cb lk q c0 c1 c2 c3 c4 c5 way' want' ps' lost' (i + 1) ∧
      aden Ω5 b3_1 ⟨tmS bl o n c cb lk q want i, H, []⟩ = some (.normal, ⟨tmS bl o n c cb lk q want' (i + 1), H', []⟩) := by
  have hi100 := J.i
  have hle := J.le
  have hwi : IntKind.u8.wrap (i : Int) = i := by simp [IntKind.wrap, IntKind.bits, IntKind.signed]; omega
  have hwk : IntKind.u8.wrap 1 = 1 := by simp [IntKind.wrap, IntKind.bits, IntKind.signed]
  have hw : IntKind.i64.wrap ((i : Int) + 1) = ((i : Int) + 1) := by rw [IntKind.wrap_i64]; omega
  have h1 : (i : Int) < (n : Int) := by omega
  have hp := fun G => pick12_6 (H := G) (f i)
  rw [hk] at hp
  have J1 := J.push (.cells [.int .u8 i, .int .u8 1] 5 1 .fixed)
  have lq := J.ev.lq
  obtain ⟨H1, e1, n1, z1, way', b', g1, g2⟩ := send1 (b := H.n) (i := i) J1.ev.lq J1.hq J1.w (by omega) (by rw [AHeap.get_push, if_pos rfl]) (by simp) (by omega) (by have := J.lost; omega)
  have n1' : H.n + 1 ≤ H1.n := by simpa using n1
  have fr1 : ∀ z, z < (H.push (.cells [.int .u8 i, .int .u8 1] 5 1 .fixed)).n → z ≠ q → (∀ L, (H.push (.cells [.int .u8 i, .int .u8 1] 5 1 .fixed)).get z ≠ .cells L 39 3 .elastic) → (∀ L, (H.push (.cells [.int .u8 i, .int .u8 1] 5 1 .fixed)).get z ≠ .cells L 3 1 .elastic) → H1.get z = (H.push (.cells [.int .u8 i, .int .u8 1] 5 1 .fixed)).get z := fun z hz hq h39 _ => z1 z hz hq (J1.w.ne rfl h39)
  have E1 := J1.ev.keep n1 ⟨_, g1⟩ fr1
  have pk1 : ∀ p ∈ ps, PkOK H1 p := fun p hp => (J1.pk p hp).keep n1 ⟨_, J1.hq⟩ fr1
  have t1 : WantOK H1 want (ps.map (·.i)) := J1.t.keep n1 fun z L hz h => z1 z hz (ne_get h J1.hq (by simp)) (J1.w.ne h (by simp))
  rcases J.ev.ms with h0 | ⟨L, te, tes, hg, hf⟩
  · omega
  have hx := hf i hi
  have hc := J.ev.hc
  have hl := J.ev.hl
  have hc1 := E1.hc
  have lc := J.ev.lc
  have ll := J.ev.ll
  have lc1 := E1.lc
  have lcn : cb < H.n + 1 := by omega
  have lln : lk < H.n + 1 := by omega
  have d1 : ¬ cb = H.n := by omega
  have d2 : ¬ lk = H.n := by omega
  have hl1 := E1.hl
  have ll1 := E1.ll
  cases hcut : c1 with
  | true =>
    subst hcut
    simp only [if_true] at g1 g2
    obtain ⟨rfl, g3, g4⟩ := g2
    refine ⟨H1, way', want, ps, lost + 1, ⟨E1, g1, ?_, t1, pk1, by have := J.lost; omega, by omega, by omega⟩, ?_⟩
    · rcases J1.w with h | ⟨w, a0, a1, a2, a3⟩
      · exact .inl h
      · exact .inr ⟨w, a0, a1, by omega, (g4 w (ne_get a3 J1.hq (by simp))).trans a3⟩
    · unfold cbc at hc hc1
      unfold lkc at hl hl1
      unfold b3_1 tmS
      simp (maxSteps := 10000000) +contextual [go_sem, hg, hx, hi, h1, hp, hwi, hwk, hw, o5_12, o5_13, e1, hc, hl, hc1, hl1, lc, ll, lc1, ll1, lcn, lln, d1, d2]
  | false =>
    subst hcut
    rw [if_neg (by simp)] at g1 g2
    obtain ⟨ws, pkn⟩ := g2
    have tt : WantOK (H1.push (.cells [.int .i64 i] 3 1 .fixed)) want (ps.map (·.i)) := t1.keep (by simp) fun z L hz _ => by rw [AHeap.get_push, if_neg (by omega)]
    obtain ⟨H2, e2, n2, z2, w2⟩ := wants_app (s := H1.n) (i := i) tt (by rw [AHeap.get_push, if_pos rfl]) (by simp; omega)
    simp only [AHeap.n_push, List.length_map] at e2 n2 z2 w2
    have z2' : ∀ z, z < H1.n → (∀ m, want ≠ .sl z 0 m none) → H2.get z = H1.get z := fun z hz h => (z2 z (by omega) h).trans (by rw [AHeap.get_push, if_neg (by omega)])
    have fr2 : ∀ z, z < H1.n → z ≠ q → (∀ L, H1.get z ≠ .cells L 39 3 .elastic) → (∀ L, H1.get z ≠ .cells L 3 1 .elastic) → H2.get z = H1.get z := fun z hz _ _ h3 => z2' z hz (t1.ne rfl h3)
    have q2 : H2.get q = _ := (z2' q (by omega) (t1.ne g1 (by simp))).trans g1
    have E2 := E1.keep (by omega) ⟨_, q2⟩ fr2
    refine ⟨H2, way', .sl (H1.n + 1) 0 (ps.length + 1) none, ps ++ [⟨1, i, b'⟩], lost, ⟨E2, q2, ?_, by simpa using w2, ?_, by have := J.lost; simp; omega, by simp; omega, by omega⟩, ?_⟩
    · rcases ws with ⟨h, _⟩ | ⟨w, a0, a1, a2, a3⟩
      · simp at h
      · exact .inr ⟨w, a0, a1, by omega, (z2' w a2 (t1.ne a3 (by simp))).trans a3⟩
    · intro p hp
      rcases List.mem_append.1 hp with h | h
      · exact (pk1 p h).keep (by omega) ⟨_, g1⟩ fr2
      · rw [List.mem_singleton.1 h]
        exact pkn.keep (by omega) ⟨_, g1⟩ fr2
    · unfold cbc at hc hc1
      unfold lkc at hl hl1
      unfold b3_1 tmS
      simp (maxSteps := 10000000) +contextual [go_sem, hg, hx, hi, h1, hp, hwi, hwk, hw, o5_12, o5_13, e1, e2, hc, hl, hc1, hl1, lc, ll, lc1, ll1, lcn, lln, d1, d2]
theorem stepO2 {H : AHeap} {bl o n : Nat} {c : Option Nat} {f : Nat → Int} {cb lk q : Nat} {c0 c1 c2 c3 c4 c5 : Bool} {way want : AVal} {ps : List Pk} {lost : Int} {i : Nat} (J : JO H bl o n f cb lk q c0 c1 c2 c3 c4 c5 way want ps lost i) (hi : i < n) (hn : n ≤ 100) (hk : pick6 (f i) = 2) :
    ∃ H' way' want' ps' lost', JO H' bl o n f cb lk q c0 c1 c2 c3 c4 c5 way' want' ps' lost' (i + 1) ∧
      aden Ω5 b3_1 ⟨tmS bl o n c cb lk q want i, H, []⟩ = some (.normal, ⟨tmS bl o n c cb lk q want' (i + 1), H', []⟩) := by
  have hi100 := J.i
  have hle := J.le
  have hwi : IntKind.u8.wrap (i : Int) = i := by simp [IntKind.wrap, IntKind.bits, IntKind.signed]; omega
  have hwk : IntKind.u8.wrap 2 = 2 := by simp [IntKind.wrap, IntKind.bits, IntKind.signed]
  have hw : IntKind.i64.wrap ((i : Int) + 1) = ((i : Int) + 1) := by rw [IntKind.wrap_i64]; omega
  have h1 : (i : Int) < (n : Int) := by omega
  have hp := fun G => pick12_6 (H := G) (f i)
  rw [hk] at hp
  have J1 := J.push (.cells [.int .u8 i, .int .u8 2] 5 1 .fixed)
  have lq := J.ev.lq
  obtain ⟨H1, e1, n1, z1, way', b', g1, g2⟩ := send2 (b := H.n) (i := i) J1.ev.lq J1.hq J1.w (by omega) (by rw [AHeap.get_push, if_pos rfl]) (by simp) (by omega) (by have := J.lost; omega)
  have n1' : H.n + 1 ≤ H1.n := by simpa using n1
  have fr1 : ∀ z, z < (H.push (.cells [.int .u8 i, .int .u8 2] 5 1 .fixed)).n → z ≠ q → (∀ L, (H.push (.cells [.int .u8 i, .int .u8 2] 5 1 .fixed)).get z ≠ .cells L 39 3 .elastic) → (∀ L, (H.push (.cells [.int .u8 i, .int .u8 2] 5 1 .fixed)).get z ≠ .cells L 3 1 .elastic) → H1.get z = (H.push (.cells [.int .u8 i, .int .u8 2] 5 1 .fixed)).get z := fun z hz hq h39 _ => z1 z hz hq (J1.w.ne rfl h39)
  have E1 := J1.ev.keep n1 ⟨_, g1⟩ fr1
  have pk1 : ∀ p ∈ ps, PkOK H1 p := fun p hp => (J1.pk p hp).keep n1 ⟨_, J1.hq⟩ fr1
  have t1 : WantOK H1 want (ps.map (·.i)) := J1.t.keep n1 fun z L hz h => z1 z hz (ne_get h J1.hq (by simp)) (J1.w.ne h (by simp))
  rcases J.ev.ms with h0 | ⟨L, te, tes, hg, hf⟩
  · omega
  have hx := hf i hi
  have hc := J.ev.hc
  have hl := J.ev.hl
  have hc1 := E1.hc
  have lc := J.ev.lc
  have ll := J.ev.ll
  have lc1 := E1.lc
  have lcn : cb < H.n + 1 := by omega
  have lln : lk < H.n + 1 := by omega
  have d1 : ¬ cb = H.n := by omega
  have d2 : ¬ lk = H.n := by omega
  have hl1 := E1.hl
  have ll1 := E1.ll
  cases hcut : c2 with
  | true =>
    subst hcut
    simp only [if_true] at g1 g2
    obtain ⟨rfl, g3, g4⟩ := g2
    refine ⟨H1, way', want, ps, lost + 1, ⟨E1, g1, ?_, t1, pk1, by have := J.lost; omega, by omega, by omega⟩, ?_⟩
    · rcases J1.w with h | ⟨w, a0, a1, a2, a3⟩
      · exact .inl h
      · exact .inr ⟨w, a0, a1, by omega, (g4 w (ne_get a3 J1.hq (by simp))).trans a3⟩
    · unfold cbc at hc hc1
      unfold lkc at hl hl1
      unfold b3_1 tmS
      simp (maxSteps := 10000000) +contextual [go_sem, hg, hx, hi, h1, hp, hwi, hwk, hw, o5_12, o5_13, e1, hc, hl, hc1, hl1, lc, ll, lc1, ll1, lcn, lln, d1, d2]
  | false =>
    subst hcut
    rw [if_neg (by simp)] at g1 g2
    obtain ⟨ws, pkn⟩ := g2
    have tt : WantOK (H1.push (.cells [.int .i64 i] 3 1 .fixed)) want (ps.map (·.i)) := t1.keep (by simp) fun z L hz _ => by rw [AHeap.get_push, if_neg (by omega)]
    obtain ⟨H2, e2, n2, z2, w2⟩ := wants_app (s := H1.n) (i := i) tt (by rw [AHeap.get_push, if_pos rfl]) (by simp; omega)
    simp only [AHeap.n_push, List.length_map] at e2 n2 z2 w2
    have z2' : ∀ z, z < H1.n → (∀ m, want ≠ .sl z 0 m none) → H2.get z = H1.get z := fun z hz h => (z2 z (by omega) h).trans (by rw [AHeap.get_push, if_neg (by omega)])
    have fr2 : ∀ z, z < H1.n → z ≠ q → (∀ L, H1.get z ≠ .cells L 39 3 .elastic) → (∀ L, H1.get z ≠ .cells L 3 1 .elastic) → H2.get z = H1.get z := fun z hz _ _ h3 => z2' z hz (t1.ne rfl h3)
    have q2 : H2.get q = _ := (z2' q (by omega) (t1.ne g1 (by simp))).trans g1
    have E2 := E1.keep (by omega) ⟨_, q2⟩ fr2
    refine ⟨H2, way', .sl (H1.n + 1) 0 (ps.length + 1) none, ps ++ [⟨2, i, b'⟩], lost, ⟨E2, q2, ?_, by simpa using w2, ?_, by have := J.lost; simp; omega, by simp; omega, by omega⟩, ?_⟩
    · rcases ws with ⟨h, _⟩ | ⟨w, a0, a1, a2, a3⟩
      · simp at h
      · exact .inr ⟨w, a0, a1, by omega, (z2' w a2 (t1.ne a3 (by simp))).trans a3⟩
    · intro p hp
      rcases List.mem_append.1 hp with h | h
      · exact (pk1 p h).keep (by omega) ⟨_, g1⟩ fr2
      · rw [List.mem_singleton.1 h]
        exact pkn.keep (by omega) ⟨_, g1⟩ fr2
    · unfold cbc at hc hc1
      unfold lkc at hl hl1
      unfold b3_1 tmS
      simp (maxSteps := 10000000) +contextual [go_sem, hg, hx, hi, h1, hp, hwi, hwk, hw, o5_12, o5_13, e1, e2, hc, hl, hc1, hl1, lc, ll, lc1, ll1, lcn, lln, d1, d2]
theorem stepO3 {H : AHeap} {bl o n : Nat} {c : Option Nat} {f : Nat → Int} {cb lk q : Nat} {c0 c1 c2 c3 c4 c5 : Bool} {way want : AVal} {ps : List Pk} {lost : Int} {i : Nat} (J : JO H bl o n f cb lk q c0 c1 c2 c3 c4 c5 way want ps lost i) (hi : i < n) (hn : n ≤ 100) (hk : pick6 (f i) = 3) :
    ∃ H' way' want' ps' lost', JO H' bl o n f cb lk q c0 c1 c2 c3 c4 c5 way' want' ps' lost' (i + 1) ∧
      aden Ω5 b3_1 ⟨tmS bl o n c cb lk q want i, H, []⟩ = some (.normal, ⟨tmS bl o n c cb lk q want' (i + 1), H', []⟩) := by
  have hi100 := J.i
  have hle := J.le
  have hwi : IntKind.u8.wrap (i : Int) = i := by simp [IntKind.wrap, IntKind.bits, IntKind.signed]; omega
  have hwk : IntKind.u8.wrap 3 = 3 := by simp [IntKind.wrap, IntKind.bits, IntKind.signed]
  have hw : IntKind.i64.wrap ((i : Int) + 1) = ((i : Int) + 1) := by rw [IntKind.wrap_i64]; omega
  have h1 : (i : Int) < (n : Int) := by omega
  have hp := fun G => pick12_6 (H := G) (f i)
  rw [hk] at hp
  have J1 := J.push (.cells [.int .u8 i, .int .u8 3] 5 1 .fixed)
  have lq := J.ev.lq
  obtain ⟨H1, e1, n1, z1, way', b', g1, g2⟩ := send3 (b := H.n) (i := i) J1.ev.lq J1.hq J1.w (by omega) (by rw [AHeap.get_push, if_pos rfl]) (by simp) (by omega) (by have := J.lost; omega)
  have n1' : H.n + 1 ≤ H1.n := by simpa using n1
  have fr1 : ∀ z, z < (H.push (.cells [.int .u8 i, .int .u8 3] 5 1 .fixed)).n → z ≠ q → (∀ L, (H.push (.cells [.int .u8 i, .int .u8 3] 5 1 .fixed)).get z ≠ .cells L 39 3 .elastic) → (∀ L, (H.push (.cells [.int .u8 i, .int .u8 3] 5 1 .fixed)).get z ≠ .cells L 3 1 .elastic) → H1.get z = (H.push (.cells [.int .u8 i, .int .u8 3] 5 1 .fixed)).get z := fun z hz hq h39 _ => z1 z hz hq (J1.w.ne rfl h39)
  have E1 := J1.ev.keep n1 ⟨_, g1⟩ fr1
  have pk1 : ∀ p ∈ ps, PkOK H1 p := fun p hp => (J1.pk p hp).keep n1 ⟨_, J1.hq⟩ fr1
  have t1 : WantOK H1 want (ps.map (·.i)) := J1.t.keep n1 fun z L hz h => z1 z hz (ne_get h J1.hq (by simp)) (J1.w.ne h (by simp))
  rcases J.ev.ms with h0 | ⟨L, te, tes, hg, hf⟩
  · omega
  have hx := hf i hi
  have hc := J.ev.hc
  have hl := J.ev.hl
  have hc1 := E1.hc
  have lc := J.ev.lc
  have ll := J.ev.ll
  have lc1 := E1.lc
  have lcn : cb < H.n + 1 := by omega
  have lln : lk < H.n + 1 := by omega
  have d1 : ¬ cb = H.n := by omega
  have d2 : ¬ lk = H.n := by omega
  have hl1 := E1.hl
  have ll1 := E1.ll
  cases hcut : c3 with
  | true =>
    subst hcut
    simp only [if_true] at g1 g2
    obtain ⟨rfl, g3, g4⟩ := g2
    refine ⟨H1, way', want, ps, lost + 1, ⟨E1, g1, ?_, t1, pk1, by have := J.lost; omega, by omega, by omega⟩, ?_⟩
    · rcases J1.w with h | ⟨w, a0, a1, a2, a3⟩
      · exact .inl h
      · exact .inr ⟨w, a0, a1, by omega, (g4 w (ne_get a3 J1.hq (by simp))).trans a3⟩
    · unfold cbc at hc hc1
      unfold lkc at hl hl1
      unfold b3_1 tmS
      simp (maxSteps := 10000000) +contextual [go_sem, hg, hx, hi, h1, hp, hwi, hwk, hw, o5_12, o5_13, e1, hc, hl, hc1, hl1, lc, ll, lc1, ll1, lcn, lln, d1, d2]
  | false =>
    subst hcut
    rw [if_neg (by simp)] at g1 g2
    obtain ⟨ws, pkn⟩ := g2
    have tt : WantOK (H1.push (.cells [.int .i64 i] 3 1 .fixed)) want (ps.map (·.i)) := t1.keep (by simp) fun z L hz _ => by rw [AHeap.get_push, if_neg (by omega)]
    obtain ⟨H2, e2, n2, z2, w2⟩ := wants_app (s := H1.n) (i := i) tt (by rw [AHeap.get_push, if_pos rfl]) (by simp; omega)
    simp only [AHeap.n_push, List.length_map] at e2 n2 z2 w2
    have z2' : ∀ z, z < H1.n → (∀ m, want ≠ .sl z 0 m none) → H2.get z = H1.get z := fun z hz h => (z2 z (by omega) h).trans (by rw [AHeap.get_push, if_neg (by omega)])
    have fr2 : ∀ z, z < H1.n → z ≠ q → (∀ L, H1.get z ≠ .cells L 39 3 .elastic) → (∀ L, H1.get z ≠ .cells L 3 1 .elastic) → H2.get z = H1.get z := fun z hz _ _ h3 => z2' z hz (t1.ne rfl h3)
    have q2 : H2.get q = _ := (z2' q (by omega) (t1.ne g1 (by simp))).trans g1
    have E2 := E1.keep (by omega) ⟨_, q2⟩ fr2
    refine ⟨H2, way', .sl (H1.n + 1) 0 (ps.length + 1) none, ps ++ [⟨3, i, b'⟩], lost, ⟨E2, q2, ?_, by simpa using w2, ?_, by have := J.lost; simp; omega, by simp; omega, by omega⟩, ?_⟩
    · rcases ws with ⟨h, _⟩ | ⟨w, a0, a1, a2, a3⟩
      · simp at h
      · exact .inr ⟨w, a0, a1, by omega, (z2' w a2 (t1.ne a3 (by simp))).trans a3⟩
    · intro p hp
      rcases List.mem_append.1 hp with h | h
      · exact (pk1 p h).keep (by omega) ⟨_, g1⟩ fr2
      · rw [List.mem_singleton.1 h]
        exact pkn.keep (by omega) ⟨_, g1⟩ fr2
    · unfold cbc at hc hc1
      unfold lkc at hl hl1
      unfold b3_1 tmS
      simp (maxSteps := 10000000) +contextual [go_sem, hg, hx, hi, h1, hp, hwi, hwk, hw, o5_12, o5_13, e1, e2, hc, hl, hc1, hl1, lc, ll, lc1, ll1, lcn, lln, d1, d2]
theorem stepO4 {H : AHeap} {bl o n : Nat} {c : Option Nat} {f : Nat → Int} {cb lk q : Nat} {c0 c1 c2 c3 c4 c5 : Bool} {way want : AVal} {ps : List Pk} {lost : Int} {i : Nat} (J : JO H bl o n f cb lk q c0 c1 c2 c3 c4 c5 way want ps lost i) (hi : i < n) (hn : n ≤ 100) (hk : pick6 (f i) = 4) :
    ∃ H' way' want' ps' lost', JO H' bl o n f cb lk q c0 c1 c2 c3 c4 c5 way' want' ps' lost' (i + 1) ∧
      aden Ω5 b3_1 ⟨tmS bl o n c cb lk q want i, H, []⟩ = some (.normal, ⟨tmS bl o n c cb lk q want' (i + 1), H', []⟩) := by
  have hi100 := J.i
  have hle := J.le
  have hwi : IntKind.u8.wrap (i : Int) = i := by simp [IntKind.wrap, IntKind.bits, IntKind.signed]; omega
  have hwk : IntKind.u8.wrap 4 = 4 := by simp [IntKind.wrap, IntKind.bits, IntKind.signed]
  have hw : IntKind.i64.wrap ((i : Int) + 1) = ((i : Int) + 1) := by rw [IntKind.wrap_i64]; omega
  have h1 : (i : Int) < (n : Int) := by omega
  have hp := fun G => pick12_6 (H := G) (f i)
  rw [hk] at hp
  have J1 := J.push (.cells [.int .u8 i, .int .u8 4] 5 1 .fixed)
  have lq := J.ev.lq
  obtain ⟨H1, e1, n1, z1, way', b', g1, g2⟩ := send4 (b := H.n) (i := i) J1.ev.lq J1.hq J1.w (by omega) (by rw [AHeap.get_push, if_pos rfl]) (by simp) (by omega) (by have := J.lost; omega)
  have n1' : H.n + 1 ≤ H1.n := by simpa using n1
  have fr1 : ∀ z, z < (H.push (.cells [.int .u8 i, .int .u8 4] 5 1 .fixed)).n → z ≠ q → (∀ L, (H.push (.cells [.int .u8 i, .int .u8 4] 5 1 .fixed)).get z ≠ .cells L 39 3 .elastic) → (∀ L, (H.push (.cells [.int .u8 i, .int .u8 4] 5 1 .fixed)).get z ≠ .cells L 3 1 .elastic) → H1.get z = (H.push (.cells [.int .u8 i, .int .u8 4] 5 1 .fixed)).get z := fun z hz hq h39 _ => z1 z hz hq (J1.w.ne rfl h39)
  have E1 := J1.ev.keep n1 ⟨_, g1⟩ fr1
  have pk1 : ∀ p ∈ ps, PkOK H1 p := fun p hp => (J1.pk p hp).keep n1 ⟨_, J1.hq⟩ fr1
  have t1 : WantOK H1 want (ps.map (·.i)) := J1.t.keep n1 fun z L hz h => z1 z hz (ne_get h J1.hq (by simp)) (J1.w.ne h (by simp))
  rcases J.ev.ms with h0 | ⟨L, te, tes, hg, hf⟩
  · omega
  have hx := hf i hi
  have hc := J.ev.hc
  have hl := J.ev.hl
  have hc1 := E1.hc
  have lc := J.ev.lc
  have ll := J.ev.ll
  have lc1 := E1.lc
  have lcn : cb < H.n + 1 := by omega
  have lln : lk < H.n + 1 := by omega
  have d1 : ¬ cb = H.n := by omega
  have d2 : ¬ lk = H.n := by omega
  have hl1 := E1.hl
  have ll1 := E1.ll
  cases hcut : c4 with
  | true =>
    subst hcut
    simp only [if_true] at g1 g2
    obtain ⟨rfl, g3, g4⟩ := g2
    refine ⟨H1, way', want, ps, lost + 1, ⟨E1, g1, ?_, t1, pk1, by have := J.lost; omega, by omega, by omega⟩, ?_⟩
    · rcases J1.w with h | ⟨w, a0, a1, a2, a3⟩
      · exact .inl h
      · exact .inr ⟨w, a0, a1, by omega, (g4 w (ne_get a3 J1.hq (by simp))).trans a3⟩
    · unfold cbc at hc hc1
      unfold lkc at hl hl1
      unfold b3_1 tmS
      simp (maxSteps := 10000000) +contextual [go_sem, hg, hx, hi, h1, hp, hwi, hwk, hw, o5_12, o5_13, e1, hc, hl, hc1, hl1, lc, ll, lc1, ll1, lcn, lln, d1, d2]
  | false =>
    subst hcut
    rw [if_neg (by simp)] at g1 g2
    obtain ⟨ws, pkn⟩ := g2
    have tt : WantOK (H1.push (.cells [.int .i64 i] 3 1 .fixed)) want (ps.map (·.i)) := t1.keep (by simp) fun z L hz _ => by rw [AHeap.get_push, if_neg (by omega)]
    obtain ⟨H2, e2, n2, z2, w2⟩ := wants_app (s := H1.n) (i := i) tt (by rw [AHeap.get_push, if_pos rfl]) (by simp; omega)
    simp only [AHeap.n_push, List.length_map] at e2 n2 z2 w2
    have z2' : ∀ z, z < H1.n → (∀ m, want ≠ .sl z 0 m none) → H2.get z = H1.get z := fun z hz h => (z2 z (by omega) h).trans (by rw [AHeap.get_push, if_neg (by omega)])
    have fr2 : ∀ z, z < H1.n → z ≠ q → (∀ L, H1.get z ≠ .cells L 39 3 .elastic) → (∀ L, H1.get z ≠ .cells L 3 1 .elastic) → H2.get z = H1.get z := fun z hz _ _ h3 => z2' z hz (t1.ne rfl h3)
    have q2 : H2.get q = _ := (z2' q (by omega) (t1.ne g1 (by simp))).trans g1
    have E2 := E1.keep (by omega) ⟨_, q2⟩ fr2
    refine ⟨H2, way', .sl (H1.n + 1) 0 (ps.length + 1) none, ps ++ [⟨4, i, b'⟩], lost, ⟨E2, q2, ?_, by simpa using w2, ?_, by have := J.lost; simp; omega, by simp; omega, by omega⟩, ?_⟩
    · rcases ws with ⟨h, _⟩ | ⟨w, a0, a1, a2, a3⟩
      · simp at h
      · exact .inr ⟨w, a0, a1, by omega, (z2' w a2 (t1.ne a3 (by simp))).trans a3⟩
    · intro p hp
      rcases List.mem_append.1 hp with h | h
      · exact (pk1 p h).keep (by omega) ⟨_, g1⟩ fr2
      · rw [List.mem_singleton.1 h]
        exact pkn.keep (by omega) ⟨_, g1⟩ fr2
    · unfold cbc at hc hc1
      unfold lkc at hl hl1
      unfold b3_1 tmS
      simp (maxSteps := 10000000) +contextual [go_sem, hg, hx, hi, h1, hp, hwi, hwk, hw, o5_12, o5_13, e1, e2, hc, hl, hc1, hl1, lc, ll, lc1, ll1, lcn, lln, d1, d2]
theorem stepO5 {H : AHeap} {bl o n : Nat} {c : Option Nat} {f : Nat → Int} {cb lk q : Nat} {c0 c1 c2 c3 c4 c5 : Bool} {way want : AVal} {ps : List Pk} {lost : Int} {i : Nat} (J : JO H bl o n f cb lk q c0 c1 c2 c3 c4 c5 way want ps lost i) (hi : i < n) (hn : n ≤ 100) (hk : pick6 (f i) = 5) :
    ∃ H' way' want' ps' lost', JO H' bl o n f cb lk q c0 c1 c2 c3 c4 c5 way' want' ps' lost' (i + 1) ∧
      aden Ω5 b3_1 ⟨tmS bl o n c cb lk q want i, H, []⟩ = some (.normal, ⟨tmS bl o n c cb lk q want' (i + 1), H', []⟩) := by
  have hi100 := J.i
  have hle := J.le
  have hwi : IntKind.u8.wrap (i : Int) = i := by simp [IntKind.wrap, IntKind.bits, IntKind.signed]; omega
  have hwk : IntKind.u8.wrap 5 = 5 := by simp [IntKind.wrap, IntKind.bits, IntKind.signed]
  have hw : IntKind.i64.wrap ((i : Int) + 1) = ((i : Int) + 1) := by rw [IntKind.wrap_i64]; omega
  have h1 : (i : Int) < (n : Int) := by omega
  have hp := fun G => pick12_6 (H := G) (f i)
  rw [hk] at hp
  have J1 := J.push (.cells [.int .u8 i, .int .u8 5] 5 1 .fixed)
  have lq := J.ev.lq
  obtain ⟨H1, e1, n1, z1, way', b', g1, g2⟩ := send5 (b := H.n) (i := i) J1.ev.lq J1.hq J1.w (by omega) (by rw [AHeap.get_push, if_pos rfl]) (by simp) (by omega) (by have := J.lost; omega)
  have n1' : H.n + 1 ≤ H1.n := by simpa using n1
  have fr1 : ∀ z, z < (H.push (.cells [.int .u8 i, .int .u8 5] 5 1 .fixed)).n → z ≠ q → (∀ L, (H.push (.cells [.int .u8 i, .int .u8 5] 5 1 .fixed)).get z ≠ .cells L 39 3 .elastic) → (∀ L, (H.push (.cells [.int .u8 i, .int .u8 5] 5 1 .fixed)).get z ≠ .cells L 3 1 .elastic) → H1.get z = (H.push (.cells [.int .u8 i, .int .u8 5] 5 1 .fixed)).get z := fun z hz hq h39 _ => z1 z hz hq (J1.w.ne rfl h39)
  have E1 := J1.ev.keep n1 ⟨_, g1⟩ fr1
  have pk1 : ∀ p ∈ ps, PkOK H1 p := fun p hp => (J1.pk p hp).keep n1 ⟨_, J1.hq⟩ fr1
  have t1 : WantOK H1 want (ps.map (·.i)) := J1.t.keep n1 fun z L hz h => z1 z hz (ne_get h J1.hq (by simp)) (J1.w.ne h (by simp))
  rcases J.ev.ms with h0 | ⟨L, te, tes, hg, hf⟩
  · omega
  have hx := hf i hi
  have hc := J.ev.hc
  have hl := J.ev.hl
  have hc1 := E1.hc
  have lc := J.ev.lc
  have ll := J.ev.ll
  have lc1 := E1.lc
  have lcn : cb < H.n + 1 := by omega
  have lln : lk < H.n + 1 := by omega
  have d1 : ¬ cb = H.n := by omega
  have d2 : ¬ lk = H.n := by omega
  have hl1 := E1.hl
  have ll1 := E1.ll
  cases hcut : c5 with
  | true =>
    subst hcut
    simp only [if_true] at g1 g2
    obtain ⟨rfl, g3, g4⟩ := g2
    refine ⟨H1, way', want, ps, lost + 1, ⟨E1, g1, ?_, t1, pk1, by have := J.lost; omega, by omega, by omega⟩, ?_⟩
    · rcases J1.w with h | ⟨w, a0, a1, a2, a3⟩
      · exact .inl h
      · exact .inr ⟨w, a0, a1, by omega, (g4 w (ne_get a3 J1.hq (by simp))).trans a3⟩
    · unfold cbc at hc hc1
      unfold lkc at hl hl1
      unfold b3_1 tmS
      simp (maxSteps := 10000000) +contextual [go_sem, hg, hx, hi, h1, hp, hwi, hwk, hw, o5_12, o5_13, e1, hc, hl, hc1, hl1, lc, ll, lc1, ll1, lcn, lln, d1, d2]
  | false =>
    subst hcut
    rw [if_neg (by simp)] at g1 g2
    obtain ⟨ws, pkn⟩ := g2
    have tt : WantOK (H1.push (.cells [.int .i64 i] 3 1 .fixed)) want (ps.map (·.i)) := t1.keep (by simp) fun z L hz _ => by rw [AHeap.get_push, if_neg (by omega)]
    obtain ⟨H2, e2, n2, z2, w2⟩ := wants_app (s := H1.n) (i := i) tt (by rw [AHeap.get_push, if_pos rfl]) (by simp; omega)
    simp only [AHeap.n_push, List.length_map] at e2 n2 z2 w2
    have z2' : ∀ z, z < H1.n → (∀ m, want ≠ .sl z 0 m none) → H2.get z = H1.get z := fun z hz h => (z2 z (by omega) h).trans (by rw [AHeap.get_push, if_neg (by omega)])
    have fr2 : ∀ z, z < H1.n → z ≠ q → (∀ L, H1.get z ≠ .cells L 39 3 .elastic) → (∀ L, H1.get z ≠ .cells L 3 1 .elastic) → H2.get z = H1.get z := fun z hz _ _ h3 => z2' z hz (t1.ne rfl h3)
    have q2 : H2.get q = _ := (z2' q (by omega) (t1.ne g1 (by simp))).trans g1
    have E2 := E1.keep (by omega) ⟨_, q2⟩ fr2
    refine ⟨H2, way', .sl (H1.n + 1) 0 (ps.length + 1) none, ps ++ [⟨5, i, b'⟩], lost, ⟨E2, q2, ?_, by simpa using w2, ?_, by have := J.lost; simp; omega, by simp; omega, by omega⟩, ?_⟩
    · rcases ws with ⟨h, _⟩ | ⟨w, a0, a1, a2, a3⟩
      · simp at h
      · exact .inr ⟨w, a0, a1, by omega, (z2' w a2 (t1.ne a3 (by simp))).trans a3⟩
    · intro p hp
      rcases List.mem_append.1 hp with h | h
      · exact (pk1 p h).keep (by omega) ⟨_, g1⟩ fr2
      · rw [List.mem_singleton.1 h]
        exact pkn.keep (by omega) ⟨_, g1⟩ fr2
    · unfold cbc at hc hc1
      unfold lkc at hl hl1
      unfold b3_1 tmS
      simp (maxSteps := 10000000) +contextual [go_sem, hg, hx, hi, h1, hp, hwi, hwk, hw, o5_12, o5_13, e1, e2, hc, hl, hc1, hl1, lc, ll, lc1, ll1, lcn, lln, d1, d2]
end Go.Eng.SeatC
