/- Layer 14: NetKeeps, a round. -/
import Derived.Test.YtgmaknppneonfaaScS
import Derived.Test.YtgmaknppneonfaaEngLeafK
set_option linter.unusedSimpArgs false
set_option linter.unusedVariables false
set_option maxHeartbeats 40000000
namespace Go.Eng.SeatC
open Go.Proofs
theorem oko6 : ∀ f, Sound Try.prog f (Ω6 f) := updP_ok (updP_ok none_sound (fun_sound oko1 none_soundD mixed Try.func18 cal18 comp18)) (fun_sound none_sound none_soundD mixed Try.func29 cal29 comp29)
theorem oko7 : ∀ f, Sound Try.prog f (Ω7 f) := updP_ok none_sound (fun_sound oko6 none_soundD mixed Try.func16 cal16 comp16)
def Ω8 : Phi := updP (updP (updP (updP (updP Ω4 11 (denF Ω0 none2 c11)) 16 (denF Ω6 none2 c16)) 17 (denF Ω2 none2 c17)) 20 (denF Ω7 none2 c20)) 21 (denF Ω0 none2 c21)
theorem oko8 : ∀ f, Sound Try.prog f (Ω8 f) := updP_ok (updP_ok (updP_ok (updP_ok (updP_ok oko4 (fun_sound oko0 none_soundD mixed Try.func11 cal11 comp11)) (fun_sound oko6 none_soundD mixed Try.func16 cal16 comp16)) (fun_sound oko2 none_soundD mixed Try.func17 cal17 comp17)) (fun_sound oko7 none_soundD mixed Try.func20 cal20 comp20)) (fun_sound oko0 none_soundD mixed Try.func21 cal21 comp21)
theorem o8_9 (l : List AVal) (H : AHeap) : Ω8 9 l H = pspec rTrue9 l H := (rfl)
theorem o8_10 (l : List AVal) (H : AHeap) : Ω8 10 l H = denF none2 none2 c10 l H := (rfl)
theorem o8_11 (l : List AVal) (H : AHeap) : Ω8 11 l H = denF Ω0 none2 c11 l H := (rfl)
theorem o8_13 (l : List AVal) (H : AHeap) : Ω8 13 l H = denF Ω0 none2 c13 l H := (rfl)
theorem o8_14 (l : List AVal) (H : AHeap) : Ω8 14 l H = denF Ω0 none2 c14 l H := (rfl)
theorem o8_15 (l : List AVal) (H : AHeap) : Ω8 15 l H = denF Ω0 none2 c15 l H := (rfl)
theorem o8_16 (l : List AVal) (H : AHeap) : Ω8 16 l H = denF Ω6 none2 c16 l H := (rfl)
theorem o8_17 (l : List AVal) (H : AHeap) : Ω8 17 l H = denF Ω2 none2 c17 l H := (rfl)
theorem o8_20 (l : List AVal) (H : AHeap) : Ω8 20 l H = denF Ω7 none2 c20 l H := (rfl)
theorem o8_21 (l : List AVal) (H : AHeap) : Ω8 21 l H = denF Ω0 none2 c21 l H := (rfl)
def ActsK (H : AHeap) (b o n : Nat) (g : Nat → Ac) : Prop := n = 0 ∨ ∃ L e es, H.get b = .cells L e es .ro ∧ ∀ i, i < n → o + i * 5 + 5 ≤ L.length ∧ (L.drop (o + i * 5)).take 5 = (g i).cells
/-- What a round leaves alone. -/
def F2 (H H' : AHeap) (q : Nat) : Prop := H.n ≤ H'.n ∧ ∀ z, z < H.n → z ≠ q → (∀ L, H.get z ≠ .cells L 39 3 .elastic) → (∀ L, H.get z ≠ .cells L 35 5 .elastic) → H'.get z = H.get z
theorem FrQ.f2 {H H' : AHeap} {q : Nat} (h : FrQ H H' q) : F2 H H' q := ⟨h.1, fun z a b c _ => h.2 z a b c⟩
structure EK (H : AHeap) (bl o n : Nat) (g : Nat → Ac) (q : Nat) (sent : AVal) (ss : List Ac) : Prop where
  acts : ActsK H bl o n g
  lb : bl < H.n
  st : SentQ H sent ss
theorem ActsK.keep {H H' : AHeap} {bl o n q : Nat} {g : Nat → Ac} {way : AVal} {lost : Int} (h : ActsK H bl o n g) (lb : bl < H.n) (hq : NetQ H q way lost) (f : F2 H H' q) : ActsK H' bl o n g := by
  obtain ⟨lq, _, _, _, _, _, _, _, _, _, hq⟩ := hq
  rcases h with h | ⟨L, e, es, h1, h2⟩
  · exact .inl h
  · exact .inr ⟨L, e, es, (f.2 bl lb (ne_get h1 hq (by simp)) (by simp [h1]) (by simp [h1])).trans h1, h2⟩
theorem SentQ.fr {H H' : AHeap} {q : Nat} {sent way : AVal} {ss : List Ac} {lost : Int} (h : SentQ H sent ss) (hq : NetQ H q way lost) (f : FrQ H H' q) : SentQ H' sent ss := by
  obtain ⟨lq, _, _, _, _, _, _, _, _, _, hq⟩ := hq
  rcases h with h | ⟨w, Z, h0, h1, h2⟩
  · exact .inl h
  · exact .inr ⟨w, Z, h0, by have := f.1; omega, (f.2 w h1 (ne_get h2 hq (by simp)) (by simp [h2])).trans h2⟩
theorem EK.fr {H H' : AHeap} {bl o n q : Nat} {g : Nat → Ac} {sent way : AVal} {ss : List Ac} {lost : Int} (E : EK H bl o n g q sent ss) (hq : NetQ H q way lost) (f : FrQ H H' q) : EK H' bl o n g q sent ss :=
  ⟨E.acts.keep E.lb hq f.f2, by have := f.1; have := E.lb; omega, E.st.fr hq f⟩
def PkQ (H : AHeap) (ss : List Ac) (p : Pq) : Prop := PqB H p ∧ 0 ≤ p.f ∧ p.f ≤ 2 ∧ ∃ a, ss[p.s]? = some a ∧ a.I = p.f ∧ a.T = p.t
theorem PqB.keep {H H' : AHeap} {q : Nat} {way : AVal} {lost : Int} {p : Pq} (h : PqB H p) (hq : NetQ H q way lost) (f : F2 H H' q) : PqB H' p := by
  obtain ⟨lq, _, _, _, _, _, _, _, _, _, hq⟩ := hq
  obtain ⟨h1, h2⟩ := h
  exact ⟨by have := f.1; omega, (f.2 p.b h1 (ne_get h2 hq (by simp)) (by simp [h2]) (by simp [h2])).trans h2⟩
theorem PkQ.keep {H H' : AHeap} {q : Nat} {way : AVal} {lost : Int} {p : Pq} {ss : List Ac} (h : PkQ H ss p) (hq : NetQ H q way lost) (f : F2 H H' q) : PkQ H' ss p := ⟨h.1.keep hq f, h.2⟩
theorem PkQ.more {H : AHeap} {p : Pq} {ss ts : List Ac} (h : PkQ H ss p) : PkQ H (ss ++ ts) p := by
  obtain ⟨h1, h2, h3, a, h4, h5⟩ := h
  refine ⟨h1, h2, h3, a, ?_, h5⟩
  have : p.s < ss.length := by
    rcases Nat.lt_or_ge p.s ss.length with h | h
    · exact h
    · rw [List.getElem?_eq_none h] at h4; simp at h4
  rw [List.getElem?_append_left this]; exact h4
structure JK (H : AHeap) (bl o n : Nat) (g : Nat → Ac) (q : Nat) (way sent : AVal) (ss : List Ac) (ps : List Pq) (lost many came : Int) (i : Nat) : Prop where
  ev : EK H bl o n g q sent ss
  net : NetQ H q way lost
  w : WayQ H way ps
  pk : ∀ p ∈ ps, PkQ H ss p
  m : many = came + lost + ps.length
  c0 : 0 ≤ came
  l0 : 0 ≤ lost
  le : came + lost + ps.length ≤ i
  sl : ss.length ≤ i
  i : i ≤ 120
abbrev tmK (bl o n : Nat) (c : Option Nat) (q : Nat) (sent : AVal) (many came : Int) (i : Nat) : Tm := [(0, .sl bl o n c), (3, .bool true), (4, .ptr q 0), (5, sent), (6, .int .i64 many), (7, .int .i64 came), (8, .int .i64 i)]
/-- The call that a round does, in its own variable. -/
def withX (H : AHeap) (a : Ac) : AHeap := (H.push (.cells [.int .i64 0, .int .i64 0, .int .i64 0, .bool false, .nils] 35 5 .fixed)).set H.n (.cells a.cells 35 5 .fixed)
theorem withX_n (H : AHeap) (a : Ac) : (withX H a).n = H.n + 1 := by simp [withX]
theorem withX_x (H : AHeap) (a : Ac) : (withX H a).get H.n = .cells a.cells 35 5 .fixed := by rw [withX, AHeap.get_set, if_pos rfl]
theorem withX_z (H : AHeap) (a : Ac) {z : Nat} (h : z < H.n) : (withX H a).get z = H.get z := by rw [withX, AHeap.get_set, if_neg (by omega), AHeap.get_push, if_neg (by omega)]
theorem JK.ext {H H' : AHeap} {bl o n : Nat} {g : Nat → Ac} {q : Nat} {way sent : AVal} {ss : List Ac} {ps : List Pq} {lost many came : Int} {i : Nat} (J : JK H bl o n g q way sent ss ps lost many came i) (hn : H.n ≤ H'.n) (fr : ∀ z, z < H.n → H'.get z = H.get z) : JK H' bl o n g q way sent ss ps lost many came i := by
  have f : FrQ H H' q := ⟨hn, fun z h _ _ => fr z h⟩
  obtain ⟨a, b, c⟩ := FrQ.way hn fr J.net J.w
  exact ⟨J.ev.fr J.net f, b, c, fun p hp => (J.pk p hp).keep J.net f.f2, J.m, J.c0, J.l0, J.le, J.sl, J.i⟩
def KStep (g : Nat → Ac) (q : Nat) (c : Option Nat) (bl o n i : Nat) (H : AHeap) (sent : AVal) (many came : Int) : Prop :=
  ∃ H' way' sent' ss' ps' lost' many' came', JK H' bl o n g q way' sent' ss' ps' lost' many' came' (i + 1) ∧ aden Ω8 b6_0 ⟨tmK bl o n c q sent many came i, H, []⟩ = some (.normal, ⟨tmK bl o n c q sent' many' came' (i + 1), H', []⟩)
theorem stepKn {H : AHeap} {bl o n : Nat} {c : Option Nat} {g : Nat → Ac} {q : Nat} {way sent : AVal} {ss : List Ac} {ps : List Pq} {lost many came : Int} {i : Nat} (J : JK H bl o n g q way sent ss ps lost many came i) (hi : i < n) (hn : n ≤ 120) (hk : ¬ (g i).k = 0 ∧ ¬ (g i).k = 1 ∧ ¬ (g i).k = 2 ∧ ¬ (g i).k = 3 ∧ ¬ (g i).k = 4 ∧ ¬ (g i).k = 5 ∧ ¬ (g i).k = 6) : KStep g q c bl o n i H sent many came := by
  have hw : IntKind.i64.wrap ((i : Int) + 1) = ((i : Int) + 1) := by rw [IntKind.wrap_i64]; omega
  have h1 : (i : Int) < (n : Int) := by omega
  have hm := J.m
  have hc0 := J.c0
  have hl0 := J.l0
  have hle := J.le
  have hsl := J.sl
  rcases J.ev.acts with h0 | ⟨L, te, tes, hg, hf⟩
  · omega
  obtain ⟨hx, hy⟩ := hf i hi
  have J1 := J.ext (H' := withX H (g i)) (by rw [withX_n]; omega) fun z h => withX_z H _ h
  have x1 := withX_x H (g i)
  have n1 := withX_n H (g i)
  have hX : withX H (g i) = (H.push (.cells [.int .i64 0, .int .i64 0, .int .i64 0, .bool false, .nils] 35 5 .fixed)).set H.n (.cells (g i).cells 35 5 .fixed) := rfl
  generalize hA : g i = a at *
  obtain ⟨kd, I, T, B, V, hv⟩ := a
  simp only at hk
  have i1 : ∀ k n, (AVal.int k n).isCell = true := fun _ _ => rfl
  have i2 : ∀ b, (AVal.bool b).isCell = true := fun _ => rfl

  obtain ⟨k0, k1, k2, k3, k4, k5, k6⟩ := hk
  have e14 := countA J1.net J1.w
  have e15 := lostA J1.net
  have a1 : IntKind.i64.wrap (came + lost) = came + lost := by rw [IntKind.wrap_i64]; omega
  have a2 : IntKind.i64.wrap (came + lost + (ps.length : Int)) = many := by rw [IntKind.wrap_i64]; omega
  refine ⟨_, way, sent, ss, ps, lost, many, came, ⟨J1.ev, J1.net, J1.w, J1.pk, hm, hc0, hl0, by omega, by omega, by omega⟩, ?_⟩
  generalize withX H ⟨kd, I, T, B, V, hv⟩ = H0 at *
  simp only [Ac.cells] at hX x1 hy
  unfold b6_0 tmK
  simp (maxSteps := 10000000) +contextual [go_sem, hg, hx, hy, hi, h1, hw, ← hX, x1, n1, i1, i2, hv, k0, k1, k2, k3, k4, k5, k6, o8_14, o8_15, e14, e15, a1, a2]
theorem stepK6 {H : AHeap} {bl o n : Nat} {c : Option Nat} {g : Nat → Ac} {q : Nat} {way sent : AVal} {ss : List Ac} {ps : List Pq} {lost many came : Int} {i : Nat} (J : JK H bl o n g q way sent ss ps lost many came i) (hi : i < n) (hn : n ≤ 120) (hk : (g i).k = 6) : KStep g q c bl o n i H sent many came := by
  have hw : IntKind.i64.wrap ((i : Int) + 1) = ((i : Int) + 1) := by rw [IntKind.wrap_i64]; omega
  have h1 : (i : Int) < (n : Int) := by omega
  have hm := J.m
  have hc0 := J.c0
  have hl0 := J.l0
  have hle := J.le
  have hsl := J.sl
  rcases J.ev.acts with h0 | ⟨L, te, tes, hg, hf⟩
  · omega
  obtain ⟨hx, hy⟩ := hf i hi
  have J1 := J.ext (H' := withX H (g i)) (by rw [withX_n]; omega) fun z h => withX_z H _ h
  have x1 := withX_x H (g i)
  have n1 := withX_n H (g i)
  have hX : withX H (g i) = (H.push (.cells [.int .i64 0, .int .i64 0, .int .i64 0, .bool false, .nils] 35 5 .fixed)).set H.n (.cells (g i).cells 35 5 .fixed) := rfl
  generalize hA : g i = a at *
  obtain ⟨kd, I, T, B, V, hv⟩ := a
  simp only at hk
  have i1 : ∀ k n, (AVal.int k n).isCell = true := fun _ _ => rfl
  have i2 : ∀ b, (AVal.bool b).isCell = true := fun _ => rfl
  subst hk
  generalize hH0 : withX H _ = H0 at *
  simp only [Ac.cells] at hX x1 hy
  obtain ⟨H2, e, f, net2, w2⟩ := clearA J1.net J1.w (by omega) (by omega)
  have e14 := countA net2 w2
  have e15 := lostA net2
  rw [show (([] : List Pq).length : Int) = 0 from rfl] at e14
  obtain ⟨l2, hl2⟩ : ∃ l2, l2 = lost + (ps.length : Int) := ⟨_, rfl⟩
  rw [← hl2] at net2 e15
  have a1 : IntKind.i64.wrap (came + l2) = many := by rw [IntKind.wrap_i64]; omega
  have a2 : IntKind.i64.wrap many = many := by rw [IntKind.wrap_i64]; omega
  refine ⟨H2, .nils, sent, ss, [], l2, many, came, ⟨J1.ev.fr J1.net f, net2, w2, by simp, by simp; omega, hc0, by omega, by simp; omega, by omega, by omega⟩, ?_⟩
  unfold b6_0 tmK
  simp (maxSteps := 10000000) +contextual [go_sem, hg, hx, hy, hi, h1, hw, ← hX, x1, n1, i1, i2, hv, o8_14, o8_15, e14, e15, a1, a2, o8_21, e]
theorem stepK5 {H : AHeap} {bl o n : Nat} {c : Option Nat} {g : Nat → Ac} {q : Nat} {way sent : AVal} {ss : List Ac} {ps : List Pq} {lost many came : Int} {i : Nat} (J : JK H bl o n g q way sent ss ps lost many came i) (hi : i < n) (hn : n ≤ 120) (hk : (g i).k = 5) : KStep g q c bl o n i H sent many came := by
  have hw : IntKind.i64.wrap ((i : Int) + 1) = ((i : Int) + 1) := by rw [IntKind.wrap_i64]; omega
  have h1 : (i : Int) < (n : Int) := by omega
  have hm := J.m
  have hc0 := J.c0
  have hl0 := J.l0
  have hle := J.le
  have hsl := J.sl
  rcases J.ev.acts with h0 | ⟨L, te, tes, hg, hf⟩
  · omega
  obtain ⟨hx, hy⟩ := hf i hi
  have J1 := J.ext (H' := withX H (g i)) (by rw [withX_n]; omega) fun z h => withX_z H _ h
  have x1 := withX_x H (g i)
  have n1 := withX_n H (g i)
  have hX : withX H (g i) = (H.push (.cells [.int .i64 0, .int .i64 0, .int .i64 0, .bool false, .nils] 35 5 .fixed)).set H.n (.cells (g i).cells 35 5 .fixed) := rfl
  generalize hA : g i = a at *
  obtain ⟨kd, I, T, B, V, hv⟩ := a
  simp only at hk
  have i1 : ∀ k n, (AVal.int k n).isCell = true := fun _ _ => rfl
  have i2 : ∀ b, (AVal.bool b).isCell = true := fun _ => rfl
  subst hk
  generalize hH0 : withX H _ = H0 at *
  simp only [Ac.cells] at hX x1 hy
  obtain ⟨H2, e, he, f, net2, w2⟩ := cutA (is := B) (f := I) (t := T) J1.net J1.w
  have e14 := countA net2 w2
  have e15 := lostA net2
  have a1 : IntKind.i64.wrap (came + lost) = came + lost := by rw [IntKind.wrap_i64]; omega
  have a2 : IntKind.i64.wrap (came + lost + (ps.length : Int)) = many := by rw [IntKind.wrap_i64]; omega
  refine ⟨H2, way, sent, ss, ps, lost, many, came, ⟨J1.ev.fr J1.net f, net2, w2, fun p hp => (J1.pk p hp).keep J1.net f.f2, hm, hc0, hl0, by omega, by omega, by omega⟩, ?_⟩
  unfold b6_0 tmK
  simp (maxSteps := 10000000) +contextual [go_sem, hg, hx, hy, hi, h1, hw, ← hX, x1, n1, i1, i2, hv, o8_14, o8_15, e14, e15, a1, a2, o8_11, he]
theorem stepK3 {H : AHeap} {bl o n : Nat} {c : Option Nat} {g : Nat → Ac} {q : Nat} {way sent : AVal} {ss : List Ac} {ps : List Pq} {lost many came : Int} {i : Nat} (J : JK H bl o n g q way sent ss ps lost many came i) (hi : i < n) (hn : n ≤ 120) (hk : (g i).k = 3) : KStep g q c bl o n i H sent many came := by
  have hw : IntKind.i64.wrap ((i : Int) + 1) = ((i : Int) + 1) := by rw [IntKind.wrap_i64]; omega
  have h1 : (i : Int) < (n : Int) := by omega
  have hm := J.m
  have hc0 := J.c0
  have hl0 := J.l0
  have hle := J.le
  have hsl := J.sl
  rcases J.ev.acts with h0 | ⟨L, te, tes, hg, hf⟩
  · omega
  obtain ⟨hx, hy⟩ := hf i hi
  have J1 := J.ext (H' := withX H (g i)) (by rw [withX_n]; omega) fun z h => withX_z H _ h
  have x1 := withX_x H (g i)
  have n1 := withX_n H (g i)
  have hX : withX H (g i) = (H.push (.cells [.int .i64 0, .int .i64 0, .int .i64 0, .bool false, .nils] 35 5 .fixed)).set H.n (.cells (g i).cells 35 5 .fixed) := rfl
  generalize hA : g i = a at *
  obtain ⟨kd, I, T, B, V, hv⟩ := a
  simp only at hk
  have i1 : ∀ k n, (AVal.int k n).isCell = true := fun _ _ => rfl
  have i2 : ∀ b, (AVal.bool b).isCell = true := fun _ => rfl
  subst hk
  generalize hH0 : withX H _ = H0 at *
  simp only [Ac.cells] at hX x1 hy
  obtain ⟨H2, e, way2, l2, ps2, he, f, net2, w2, sub, hsum, hge⟩ := dropA (i := I) J1.net J1.w (by omega) (fun p hp => (J1.pk p hp).1) (by omega)
  have e14 := countA net2 w2
  have e15 := lostA net2
  have a1 : IntKind.i64.wrap (came + l2) = came + l2 := by rw [IntKind.wrap_i64]; omega
  have a2 : IntKind.i64.wrap (came + l2 + (ps2.length : Int)) = many := by rw [IntKind.wrap_i64]; omega
  refine ⟨H2, way2, sent, ss, ps2, l2, many, came, ⟨J1.ev.fr J1.net f, net2, w2, fun p hp => (J1.pk p (sub p hp)).keep J1.net f.f2, by omega, hc0, by omega, by omega, by omega, by omega⟩, ?_⟩
  unfold b6_0 tmK
  simp (maxSteps := 10000000) +contextual [go_sem, hg, hx, hy, hi, h1, hw, ← hX, x1, n1, i1, i2, hv, o8_14, o8_15, e14, e15, a1, a2, o8_20, he]
theorem stepK4 {H : AHeap} {bl o n : Nat} {c : Option Nat} {g : Nat → Ac} {q : Nat} {way sent : AVal} {ss : List Ac} {ps : List Pq} {lost many came : Int} {i : Nat} (J : JK H bl o n g q way sent ss ps lost many came i) (hi : i < n) (hn : n ≤ 120) (hk : (g i).k = 4) : KStep g q c bl o n i H sent many came := by
  have hw : IntKind.i64.wrap ((i : Int) + 1) = ((i : Int) + 1) := by rw [IntKind.wrap_i64]; omega
  have h1 : (i : Int) < (n : Int) := by omega
  have hm := J.m
  have hc0 := J.c0
  have hl0 := J.l0
  have hle := J.le
  have hsl := J.sl
  rcases J.ev.acts with h0 | ⟨L, te, tes, hg, hf⟩
  · omega
  obtain ⟨hx, hy⟩ := hf i hi
  have J1 := J.ext (H' := withX H (g i)) (by rw [withX_n]; omega) fun z h => withX_z H _ h
  have x1 := withX_x H (g i)
  have n1 := withX_n H (g i)
  have hX : withX H (g i) = (H.push (.cells [.int .i64 0, .int .i64 0, .int .i64 0, .bool false, .nils] 35 5 .fixed)).set H.n (.cells (g i).cells 35 5 .fixed) := rfl
  generalize hA : g i = a at *
  obtain ⟨kd, I, T, B, V, hv⟩ := a
  simp only at hk
  have i1 : ∀ k n, (AVal.int k n).isCell = true := fun _ _ => rfl
  have i2 : ∀ b, (AVal.bool b).isCell = true := fun _ => rfl
  subst hk
  generalize hH0 : withX H _ = H0 at *
  simp only [Ac.cells] at hX x1 hy
  rcases doubleA (i := I) J1.net J1.w (by omega) (fun p hp => (J1.pk p hp).1) with ⟨H2, he, f, net2, w2⟩ | ⟨H2, way2, nb, p, hp, he, f, net2, w2, pb⟩
  · have e14 := countA net2 w2
    have e15 := lostA net2
    have a1 : IntKind.i64.wrap (came + lost) = came + lost := by rw [IntKind.wrap_i64]; omega
    have a2 : IntKind.i64.wrap (came + lost + (ps.length : Int)) = many := by rw [IntKind.wrap_i64]; omega
    refine ⟨H2, way, sent, ss, ps, lost, many, came, ⟨J1.ev.fr J1.net f, net2, w2, fun p hp => (J1.pk p hp).keep J1.net f.f2, hm, hc0, hl0, by omega, by omega, by omega⟩, ?_⟩
    unfold b6_0 tmK
    simp (maxSteps := 10000000) +contextual [go_sem, hg, hx, hy, hi, h1, hw, ← hX, x1, n1, i1, i2, hv, o8_14, o8_15, e14, e15, a1, a2, o8_17, he]
  · have e14 := countA net2 w2
    have e15 := lostA net2
    obtain ⟨N, hN⟩ : ∃ N, N = (ps ++ [(⟨p.f, p.t, p.s, nb⟩ : Pq)]).length := ⟨_, rfl⟩
    have hN' : N = ps.length + 1 := by simpa using hN
    rw [← hN] at e14
    have a0 : IntKind.i64.wrap (many + 1) = many + 1 := by rw [IntKind.wrap_i64]; omega
    have a1 : IntKind.i64.wrap (came + lost) = came + lost := by rw [IntKind.wrap_i64]; omega
    have a2 : IntKind.i64.wrap (came + lost + (N : Int)) = many + 1 := by rw [IntKind.wrap_i64]; omega
    refine ⟨H2, way2, sent, ss, ps ++ [⟨p.f, p.t, p.s, nb⟩], lost, many + 1, came, ⟨J1.ev.fr J1.net f, net2, w2, ?_, by simp; omega, hc0, hl0, by simp; omega, by omega, by omega⟩, ?_⟩
    · intro p' hp'
      rcases List.mem_append.1 hp' with h | h
      · exact (J1.pk p' h).keep J1.net f.f2
      · rw [List.mem_singleton.1 h]
        exact ⟨pb, (J1.pk p hp).2⟩
    · unfold b6_0 tmK
      simp (maxSteps := 10000000) +contextual [go_sem, hg, hx, hy, hi, h1, hw, ← hX, x1, n1, i1, i2, hv, o8_14, o8_15, e14, e15, a1, a2, a0, o8_17, he]
theorem stepK1 {H : AHeap} {bl o n : Nat} {c : Option Nat} {g : Nat → Ac} {q : Nat} {way sent : AVal} {ss : List Ac} {ps : List Pq} {lost many came : Int} {i : Nat} (J : JK H bl o n g q way sent ss ps lost many came i) (hi : i < n) (hn : n ≤ 120) (hk : (g i).k = 1) : KStep g q c bl o n i H sent many came := by
  have hw : IntKind.i64.wrap ((i : Int) + 1) = ((i : Int) + 1) := by rw [IntKind.wrap_i64]; omega
  have h1 : (i : Int) < (n : Int) := by omega
  have hm := J.m
  have hc0 := J.c0
  have hl0 := J.l0
  have hle := J.le
  have hsl := J.sl
  rcases J.ev.acts with h0 | ⟨L, te, tes, hg, hf⟩
  · omega
  obtain ⟨hx, hy⟩ := hf i hi
  have J1 := J.ext (H' := withX H (g i)) (by rw [withX_n]; omega) fun z h => withX_z H _ h
  have x1 := withX_x H (g i)
  have n1 := withX_n H (g i)
  have hX : withX H (g i) = (H.push (.cells [.int .i64 0, .int .i64 0, .int .i64 0, .bool false, .nils] 35 5 .fixed)).set H.n (.cells (g i).cells 35 5 .fixed) := rfl
  generalize hA : g i = a at *
  obtain ⟨kd, I, T, B, V, hv⟩ := a
  simp only at hk
  have i1 : ∀ k n, (AVal.int k n).isCell = true := fun _ _ => rfl
  have i2 : ∀ b, (AVal.bool b).isCell = true := fun _ => rfl
  subst hk
  generalize hH0 : withX H _ = H0 at *
  simp only [Ac.cells] at hX x1 hy
  rcases deliverA (i := I) J1.net J1.w (by omega) (fun p hp => (J1.pk p hp).1) with ⟨H2, he, f, net2, w2⟩ | ⟨H2, way2, nb, A, p, C, hps, he, f, net2, w2, lnb, gnb⟩
  · have J2 : JK H2 bl o n g q way sent ss ps lost many came i := ⟨J1.ev.fr J1.net f, net2, w2, fun p hp => (J1.pk p hp).keep J1.net f.f2, hm, hc0, hl0, by omega, by omega, by omega⟩
    obtain ⟨H3, hH3⟩ : ∃ H3, H3 = (H2.push (.cells [.int .i64 0, .int .i64 0, .nils] 39 3 .fixed)).set H2.n (.cells [.int .i64 0, .int .i64 0, .nils] 39 3 .fixed) := ⟨_, rfl⟩
    have J3 := J2.ext (H' := H3) (by rw [hH3]; simp) fun z hz => by rw [hH3, AHeap.get_set, if_neg (by omega), AHeap.get_push, if_neg (by omega)]
    refine ⟨H3, way, sent, ss, ps, lost, many, came, ⟨J3.ev, J3.net, J3.w, J3.pk, hm, hc0, hl0, by omega, by omega, by omega⟩, ?_⟩
    subst hH3
    unfold b6_0 tmK
    simp (maxSteps := 10000000) +contextual [go_sem, hg, hx, hy, hi, h1, hw, ← hX, x1, n1, i1, i2, hv, o8_16, he]
  · have hp := J1.pk p (by rw [hps]; simp)
    obtain ⟨pb, p0, p2, a, ha, haI, haT⟩ := hp
    have J2 : EK H2 bl o n g q sent ss := J1.ev.fr J1.net f
    have pk2 : ∀ p ∈ ps, PkQ H2 ss p := fun p hp => (J1.pk p hp).keep J1.net f.f2
    obtain ⟨H3, hH3⟩ : ∃ H3, H3 = (H2.push (.cells [.int .i64 0, .int .i64 0, .nils] 39 3 .fixed)).set H2.n (.cells [.int .i64 p.f, .int .i64 p.t, .sl nb 0 2 none] 39 3 .fixed) := ⟨_, rfl⟩
    have H3n : H3.n = H2.n + 1 := by rw [hH3]; simp
    have H3z : ∀ z, z < H2.n → H3.get z = H2.get z := fun z hz => by rw [hH3, AHeap.get_set, if_neg (by omega), AHeap.get_push, if_neg (by omega)]
    have H3p : H3.get H2.n = .cells [.int .i64 p.f, .int .i64 p.t, .sl nb 0 2 none] 39 3 .fixed := by rw [hH3, AHeap.get_set, if_pos rfl]
    have f3 : FrQ H2 H3 q := ⟨by omega, fun z h _ _ => H3z z h⟩
    obtain ⟨_, net3, w3⟩ := FrQ.way (by omega) H3z net2 w2
    have E3 := J2.fr net2 f3
    have e14 := countA net3 w3
    have e15 := lostA net3
    have gnb3 := (H3z nb lnb).trans gnb
    have lnb3 : nb < H2.n + 1 := by omega
    have hlen : ps.length = (A ++ C).length + 1 := by rw [hps]; simp; omega
    have a0 : IntKind.i64.wrap (came + 1) = came + 1 := by rw [IntKind.wrap_i64]; omega
    have a1 : IntKind.i64.wrap (came + 1 + lost) = came + 1 + lost := by rw [IntKind.wrap_i64]; omega
    have a2 : IntKind.i64.wrap (came + 1 + lost + ((A ++ C).length : Int)) = many := by rw [IntKind.wrap_i64]; omega
    refine ⟨H3, way2, sent, ss, A ++ C, lost, many, came + 1, ⟨E3, net3, w3, fun p' hp' => (pk2 p' (by rw [hps]; simp at hp' ⊢; rcases hp' with h | h <;> simp [h])).keep net2 f3.f2, by omega, by omega, hl0, by omega, by omega, by omega⟩, ?_⟩
    have hs : p.s < ss.length := by
      rcases Nat.lt_or_ge p.s ss.length with h | h
      · exact h
      · rw [List.getElem?_eq_none h] at ha; simp at ha
    rcases E3.st with ⟨h, _⟩ | ⟨w, Z, rfl, lw, hW⟩
    · rw [h] at hs; simp at hs
    obtain ⟨y1, y2⟩ := flatS_at ss Z p.s a ha
    rw [haI] at y1
    rw [haT] at y2
    generalize (A ++ C).length = N at *
    have hwf : IntKind.i64.wrap p.f = p.f := by rw [IntKind.wrap_i64]; omega
    have hws : IntKind.i64.wrap (p.s : Int) = p.s := by rw [IntKind.wrap_i64]; omega
    have b1 : ¬ (ss.length : Int) ≤ (p.s : Int) := by omega
    have b2 : (p.s : Int) < (ss.length : Int) := by omega
    have b3 : ¬ ss.length ≤ p.s := by omega
    have lw3 : w < H2.n + 1 := by omega
    obtain ⟨pf, pt, psn, pbn⟩ := p
    simp only at *
    generalize flatS ss ++ Z = LS at *
    clear hps pk2
    unfold b6_0 tmK
    simp (maxSteps := 10000000) +contextual [go_sem, hg, hx, hy, hi, h1, hw, ← hX, x1, n1, i1, i2, hv, o8_14, o8_15, e14, e15, a0, a1, a2, o8_16, he, ← hH3, H3n, H3p, gnb3, lnb3, hW, lw, y1, y2, lw3, hs, hwf, hws, b1, b2, b3]
theorem stepK2 {H : AHeap} {bl o n : Nat} {c : Option Nat} {g : Nat → Ac} {q : Nat} {way sent : AVal} {ss : List Ac} {ps : List Pq} {lost many came : Int} {i : Nat} (J : JK H bl o n g q way sent ss ps lost many came i) (hi : i < n) (hn : n ≤ 120) (hk : (g i).k = 2) : KStep g q c bl o n i H sent many came := by
  have hw : IntKind.i64.wrap ((i : Int) + 1) = ((i : Int) + 1) := by rw [IntKind.wrap_i64]; omega
  have h1 : (i : Int) < (n : Int) := by omega
  have hm := J.m
  have hc0 := J.c0
  have hl0 := J.l0
  have hle := J.le
  have hsl := J.sl
  rcases J.ev.acts with h0 | ⟨L, te, tes, hg, hf⟩
  · omega
  obtain ⟨hx, hy⟩ := hf i hi
  have J1 := J.ext (H' := withX H (g i)) (by rw [withX_n]; omega) fun z h => withX_z H _ h
  have x1 := withX_x H (g i)
  have n1 := withX_n H (g i)
  have hX : withX H (g i) = (H.push (.cells [.int .i64 0, .int .i64 0, .int .i64 0, .bool false, .nils] 35 5 .fixed)).set H.n (.cells (g i).cells 35 5 .fixed) := rfl
  generalize hA : g i = a at *
  obtain ⟨kd, I, T, B, V, hv⟩ := a
  simp only at hk
  have i1 : ∀ k n, (AVal.int k n).isCell = true := fun _ _ => rfl
  have i2 : ∀ b, (AVal.bool b).isCell = true := fun _ => rfl
  subst hk
  generalize hH0 : withX H _ = H0 at *
  simp only [Ac.cells] at hX x1 hy
  rcases deliverA (i := I) J1.net J1.w (by omega) (fun p hp => (J1.pk p hp).1) with ⟨H2, he, f, net2, w2⟩ | ⟨H2, way2, nb, A, p, C, hps, he, f, net2, w2, lnb, gnb⟩
  · have J2 : JK H2 bl o n g q way sent ss ps lost many came i := ⟨J1.ev.fr J1.net f, net2, w2, fun p hp => (J1.pk p hp).keep J1.net f.f2, hm, hc0, hl0, by omega, by omega, by omega⟩
    obtain ⟨H3, hH3⟩ : ∃ H3, H3 = (H2.push (.cells [.int .i64 0, .int .i64 0, .nils] 39 3 .fixed)).set H2.n (.cells [.int .i64 0, .int .i64 0, .nils] 39 3 .fixed) := ⟨_, rfl⟩
    have J3 := J2.ext (H' := H3) (by rw [hH3]; simp) fun z hz => by rw [hH3, AHeap.get_set, if_neg (by omega), AHeap.get_push, if_neg (by omega)]
    refine ⟨H3, way, sent, ss, ps, lost, many, came, ⟨J3.ev, J3.net, J3.w, J3.pk, hm, hc0, hl0, by omega, by omega, by omega⟩, ?_⟩
    subst hH3
    unfold b6_0 tmK
    simp (maxSteps := 10000000) +contextual [go_sem, hg, hx, hy, hi, h1, hw, ← hX, x1, n1, i1, i2, hv, o8_16, he]
  · have hp := J1.pk p (by rw [hps]; simp)
    obtain ⟨pb, p0, p2, a, ha, haI, haT⟩ := hp
    have J2 : EK H2 bl o n g q sent ss := J1.ev.fr J1.net f
    have pk2 : ∀ p ∈ ps, PkQ H2 ss p := fun p hp => (J1.pk p hp).keep J1.net f.f2
    obtain ⟨H3, hH3⟩ : ∃ H3, H3 = (H2.push (.cells [.int .i64 0, .int .i64 0, .nils] 39 3 .fixed)).set H2.n (.cells [.int .i64 p.f, .int .i64 p.t, .sl nb 0 2 none] 39 3 .fixed) := ⟨_, rfl⟩
    have H3n : H3.n = H2.n + 1 := by rw [hH3]; simp
    have H3z : ∀ z, z < H2.n → H3.get z = H2.get z := fun z hz => by rw [hH3, AHeap.get_set, if_neg (by omega), AHeap.get_push, if_neg (by omega)]
    have H3p : H3.get H2.n = .cells [.int .i64 p.f, .int .i64 p.t, .sl nb 0 2 none] 39 3 .fixed := by rw [hH3, AHeap.get_set, if_pos rfl]
    have f3 : FrQ H2 H3 q := ⟨by omega, fun z h _ _ => H3z z h⟩
    obtain ⟨_, net3, w3⟩ := FrQ.way (by omega) H3z net2 w2
    have E3 := J2.fr net2 f3
    have e14 := countA net3 w3
    have e15 := lostA net3
    have gnb3 := (H3z nb lnb).trans gnb
    have lnb3 : nb < H2.n + 1 := by omega
    have hlen : ps.length = (A ++ C).length + 1 := by rw [hps]; simp; omega
    have a0 : IntKind.i64.wrap (came + 1) = came + 1 := by rw [IntKind.wrap_i64]; omega
    have a1 : IntKind.i64.wrap (came + 1 + lost) = came + 1 + lost := by rw [IntKind.wrap_i64]; omega
    have a2 : IntKind.i64.wrap (came + 1 + lost + ((A ++ C).length : Int)) = many := by rw [IntKind.wrap_i64]; omega
    refine ⟨H3, way2, sent, ss, A ++ C, lost, many, came + 1, ⟨E3, net3, w3, fun p' hp' => (pk2 p' (by rw [hps]; simp at hp' ⊢; rcases hp' with h | h <;> simp [h])).keep net2 f3.f2, by omega, by omega, hl0, by omega, by omega, by omega⟩, ?_⟩
    have hs : p.s < ss.length := by
      rcases Nat.lt_or_ge p.s ss.length with h | h
      · exact h
      · rw [List.getElem?_eq_none h] at ha; simp at ha
    rcases E3.st with ⟨h, _⟩ | ⟨w, Z, rfl, lw, hW⟩
    · rw [h] at hs; simp at hs
    obtain ⟨y1, y2⟩ := flatS_at ss Z p.s a ha
    rw [haI] at y1
    rw [haT] at y2
    generalize (A ++ C).length = N at *
    have hwf : IntKind.i64.wrap p.f = p.f := by rw [IntKind.wrap_i64]; omega
    have hws : IntKind.i64.wrap (p.s : Int) = p.s := by rw [IntKind.wrap_i64]; omega
    have b1 : ¬ (ss.length : Int) ≤ (p.s : Int) := by omega
    have b2 : (p.s : Int) < (ss.length : Int) := by omega
    have b3 : ¬ ss.length ≤ p.s := by omega
    have lw3 : w < H2.n + 1 := by omega
    obtain ⟨pf, pt, psn, pbn⟩ := p
    simp only at *
    generalize flatS ss ++ Z = LS at *
    clear hps pk2
    unfold b6_0 tmK
    simp (maxSteps := 10000000) +contextual [go_sem, hg, hx, hy, hi, h1, hw, ← hX, x1, n1, i1, i2, hv, o8_14, o8_15, e14, e15, a0, a1, a2, o8_16, he, ← hH3, H3n, H3p, gnb3, lnb3, hW, lw, y1, y2, lw3, hs, hwf, hws, b1, b2, b3]
theorem stepK0 {H : AHeap} {bl o n : Nat} {c : Option Nat} {g : Nat → Ac} {q : Nat} {way sent : AVal} {ss : List Ac} {ps : List Pq} {lost many came : Int} {i : Nat} (J : JK H bl o n g q way sent ss ps lost many came i) (hi : i < n) (hn : n ≤ 120) (hk : (g i).k = 0) : KStep g q c bl o n i H sent many came := by
  have hw : IntKind.i64.wrap ((i : Int) + 1) = ((i : Int) + 1) := by rw [IntKind.wrap_i64]; omega
  have h1 : (i : Int) < (n : Int) := by omega
  have hm := J.m
  have hc0 := J.c0
  have hl0 := J.l0
  have hle := J.le
  have hsl := J.sl
  rcases J.ev.acts with h0 | ⟨L, te, tes, hg, hf⟩
  · omega
  obtain ⟨hx, hy⟩ := hf i hi
  have J1 := J.ext (H' := withX H (g i)) (by rw [withX_n]; omega) fun z h => withX_z H _ h
  have x1 := withX_x H (g i)
  have n1 := withX_n H (g i)
  have hX : withX H (g i) = (H.push (.cells [.int .i64 0, .int .i64 0, .int .i64 0, .bool false, .nils] 35 5 .fixed)).set H.n (.cells (g i).cells 35 5 .fixed) := rfl
  generalize hA : g i = a at *
  obtain ⟨kd, I, T, B, V, hv⟩ := a
  simp only at hk
  have i1 : ∀ k n, (AVal.int k n).isCell = true := fun _ _ => rfl
  have i2 : ∀ b, (AVal.bool b).isCell = true := fun _ => rfl
  subst hk
  generalize hH0 : withX H _ = H0 at *
  simp only [Ac.cells] at hX x1 hy
  have hwN : IntKind.u8.wrap (ss.length : Int) = (ss.length : Int) := by simp [IntKind.wrap, IntKind.bits, IntKind.signed]; omega
  have hlen := J1.ev.st.len
  have J2 := J1.ext (H' := H0.push (.cells [.int .u8 ss.length, .int .u8 (IntKind.u8.wrap I)] 5 1 .fixed)) (by simp) fun z hz => by rw [AHeap.get_push, if_neg (by omega)]
  have x2 : (H0.push (.cells [.int .u8 ss.length, .int .u8 (IntKind.u8.wrap I)] 5 1 .fixed)).get H.n = _ := (by rw [AHeap.get_push, if_neg (by omega)] : (H0.push (.cells [.int .u8 ss.length, .int .u8 (IntKind.u8.wrap I)] 5 1 .fixed)).get H.n = H0.get H.n).trans x1
  cases hk : linkL I T with
  | false =>
    obtain ⟨lq, u0, u1, u2, u3, u4, u5, u6, u7, u8, hq⟩ := J2.net
    have he := sendq_bad lq hq (b := H0.n) hk
    have e14 := countA J2.net J2.w
    have e15 := lostA J2.net
    have a1 : IntKind.i64.wrap (came + lost) = came + lost := by rw [IntKind.wrap_i64]; omega
    have a2 : IntKind.i64.wrap (came + lost + (ps.length : Int)) = many := by rw [IntKind.wrap_i64]; omega
    refine ⟨_, way, sent, ss, ps, lost, many, came, ⟨J2.ev, J2.net, J2.w, J2.pk, hm, hc0, hl0, by omega, by omega, by omega⟩, ?_⟩
    rw [n1] at he
    clear hq
    unfold b6_0 tmK
    simp (maxSteps := 10000000) +contextual [go_sem, hg, hx, hy, hi, h1, hw, ← hX, x1, n1, i1, i2, hv, o8_14, o8_15, e14, e15, a1, a2, o8_13, hlen, hwN, he]
  | true =>
    have hI : IntKind.u8.wrap I = I := by
      rcases linkL_cases hk with ⟨h, _⟩ | ⟨h, _⟩ | ⟨h, _⟩ | ⟨h, _⟩ | ⟨h, _⟩ | ⟨h, _⟩ <;> subst h <;> rfl
    have hIr : 0 ≤ I ∧ I ≤ 2 := by
      rcases linkL_cases hk with ⟨h, _⟩ | ⟨h, _⟩ | ⟨h, _⟩ | ⟨h, _⟩ | ⟨h, _⟩ | ⟨h, _⟩ <;> subst h <;> omega
    rw [hI] at J2 x2
    obtain ⟨H1, way', l2, ps2, he, f, net2, w2, hc⟩ := sendA (b := H0.n) (i := ss.length) J2.net J2.w (by omega) (by rw [AHeap.get_push, if_pos rfl]) (by simp) (by omega) hk
    have E2 := J2.ev.fr J2.net f
    have fn := f.1
    simp only [AHeap.n_push] at fn
    have x3 : H1.get H.n = _ := (f.2 H.n (by simp; omega) (by obtain ⟨lq, _, _, _, _, _, _, _, _, _, hq⟩ := J2.net; exact ne_get x2 hq (by simp)) (by simp [x2])).trans x2
    have E3 : SentQ (H1.push (.cells (Ac.cells ⟨0, I, T, B, V, hv⟩) 35 5 .fixed)) sent ss := by
      rcases E2.st with h | ⟨w, Z, h0, h1, h2⟩
      · exact .inl h
      · exact .inr ⟨w, Z, h0, by simp; omega, by rw [AHeap.get_push, if_neg (by omega)]; exact h2⟩
    obtain ⟨H2, sent2, ea, na, fa, s2⟩ := sentq_app (s := H1.n) (a := ⟨0, I, T, B, V, hv⟩) E3 (by rw [AHeap.get_push, if_pos rfl]) (by omega)
    simp only [AHeap.n_push] at na fa
    have fa' : ∀ z, z < H1.n → (∀ L, H1.get z ≠ .cells L 35 5 .elastic) → H2.get z = H1.get z := fun z hz h => by
      have e : (H1.push (.cells (Ac.cells ⟨0, I, T, B, V, hv⟩) 35 5 .fixed)).get z = H1.get z := by rw [AHeap.get_push, if_neg (by omega)]
      exact (fa z (by omega) (by rw [e]; exact h)).trans e
    have f3 : F2 H1 H2 q := ⟨by omega, fun z hz _ _ h => fa' z hz h⟩
    have net3 : NetQ H2 q way' l2 := by
      obtain ⟨lq, u0, u1, u2, u3, u4, u5, u6, u7, u8, hq⟩ := net2
      exact ⟨by omega, _, _, _, _, _, _, _, _, _, (fa' q lq (by simp [hq])).trans hq⟩
    have w3 : WayQ H2 way' ps2 := by
      rcases w2 with h | ⟨w, Z, h0, h1, h2⟩
      · exact .inl h
      · exact .inr ⟨w, Z, h0, by omega, (fa' w h1 (by simp [h2])).trans h2⟩
    have e14 := countA net3 w3
    have e15 := lostA net3
    have hsum : l2 + ps2.length = lost + ps.length + 1 ∧ lost ≤ l2 := by
      rcases hc with ⟨rfl, rfl⟩ | ⟨b', rfl, rfl, _⟩
      · exact ⟨by omega, by omega⟩
      · exact ⟨by simp; omega, by omega⟩
    have a0 : IntKind.i64.wrap (many + 1) = many + 1 := by rw [IntKind.wrap_i64]; omega
    have a1 : IntKind.i64.wrap (came + l2) = came + l2 := by rw [IntKind.wrap_i64]; omega
    have a2 : IntKind.i64.wrap (came + l2 + (ps2.length : Int)) = many + 1 := by rw [IntKind.wrap_i64]; omega
    refine ⟨H2, way', sent2, ss ++ [⟨0, I, T, B, V, hv⟩], ps2, l2, many + 1, came, ⟨⟨E2.acts.keep E2.lb net2 f3, by have := E2.lb; omega, s2⟩, net3, w3, ?_, by omega, hc0, by omega, by omega, by simp; omega, by omega⟩, ?_⟩
    · intro p hp
      have old : ∀ p ∈ ps, PkQ H2 (ss ++ [⟨0, I, T, B, V, hv⟩]) p := fun p hp => (((J2.pk p hp).keep J2.net f.f2).keep net2 f3).more
      rcases hc with ⟨rfl, _⟩ | ⟨b', rfl, _, pb⟩
      · exact old p hp
      · rcases List.mem_append.1 hp with h | h
        · exact old p h
        · rw [List.mem_singleton.1 h]
          exact ⟨pb.keep net2 f3, hIr.1, hIr.2, ⟨0, I, T, B, V, hv⟩, by simp, rfl, rfl⟩
    · simp only [Ac.cells] at ea
      have l1 : H.n < H1.n := by omega
      rw [n1] at he
      unfold b6_0 tmK
      simp (maxSteps := 10000000) +contextual [go_sem, hg, hx, hy, hi, h1, hw, ← hX, x1, n1, i1, i2, hv, o8_14, o8_15, e14, e15, a1, a2, a0, o8_13, hlen, hwN, hI, he, x3, l1, ea]
end Go.Eng.SeatC
