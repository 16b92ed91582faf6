/- Layer 14: NetOrder, what is delivered. -/
import Derived.Test.YtgmaknppneonfaaScH
set_option linter.unusedSimpArgs false
set_option linter.unusedVariables false
set_option maxHeartbeats 40000000
namespace Go.Eng.SeatC
open Go.Proofs
theorem lastO {H : AHeap} {bl o n : Nat} {c : Option Nat} {cb lk q : Nat} {want : AVal} :
    aden Ω5 b3_1 ⟨tmS bl o n c cb lk q want n, H, []⟩ = some (.exit 2, ⟨[(0, .sl bl o n c), (3, .ptr cb 0), (5, .bool true), (6, .ptr q 0), (7, .sl lk 0 6 (some 6)), (9, want), (10, .int .i64 n), (59, .bool false)], H, []⟩) := by
  unfold b3_1 tmS
  simp (maxSteps := 10000000) +contextual [go_sem]
theorem loopO {bl o n : Nat} {c : Option Nat} {f : Nat → Int} {cb lk q : Nat} {c0 c1 c2 c3 c4 c5 : Bool} (hn : n ≤ 100) : ∀ (j i : Nat), i + j = n → ∀ {H : AHeap} {way want : AVal} {ps : List Pk} {lost : Int}, JO H bl o n f cb lk q c0 c1 c2 c3 c4 c5 way want ps lost i →
    ∃ H' way' want' ps' lost', JO H' bl o n f cb lk q c0 c1 c2 c3 c4 c5 way' want' ps' lost' n ∧ iter (aden Ω5 b3_1) (j + 1) ⟨tmS bl o n c cb lk q want i, H, []⟩ = some (.exit 2, ⟨[(0, .sl bl o n c), (3, .ptr cb 0), (5, .bool true), (6, .ptr q 0), (7, .sl lk 0 6 (some 6)), (9, want'), (10, .int .i64 n), (59, .bool false)], H', []⟩) := by
  intro j
  induction j with
  | zero =>
    intro i hi H way want ps lost J
    have hi' : i = n := by omega
    subst hi'
    exact ⟨H, way, want, ps, lost, J, by rw [iter_succ, lastO]; rfl⟩
  | succ j ih =>
    intro i hi H way want ps lost J
    have step : ∃ H' way' want' ps' lost', JO H' bl o n f cb lk q c0 c1 c2 c3 c4 c5 way' want' ps' lost' (i + 1) ∧ aden Ω5 b3_1 ⟨tmS bl o n c cb lk q want i, H, []⟩ = some (.normal, ⟨tmS bl o n c cb lk q want' (i + 1), H', []⟩) := by
      rcases pick6_of (f i) with h | h | h | h | h | h
      · exact stepO0 J (by omega) hn h
      · exact stepO1 J (by omega) hn h
      · exact stepO2 J (by omega) hn h
      · exact stepO3 J (by omega) hn h
      · exact stepO4 J (by omega) hn h
      · exact stepO5 J (by omega) hn h
    obtain ⟨H1, w1, t1, p1, l1, J1, hs⟩ := step
    obtain ⟨H2, w2, t2, p2, l2, J2, h2⟩ := ih (i + 1) (by omega) J1
    exact ⟨H2, w2, t2, p2, l2, J2, by rw [iter_succ, hs, iterK_n]; exact h2⟩
theorem at31c {H : AHeap} {q N : Nat} {c0 c1 c2 c3 c4 c5 : Bool} {way : AVal} {lost : Int} (hq : H.get q = .cells (nbc c0 c1 c2 c3 c4 c5 way lost) 56 12 .fixed) (hlen : lenK (some way) = some (.int .i64 N)) (h0 : 0 < N) : denF Ω0 none2 c31 [.ptr q 0, .int .i64 0] H = some (.int .i64 0, H) := by
  have n26 := nonec hq
  have d1 : ¬ (N : Int) ≤ 0 := by omega
  have d2 : ¬ N = 0 := by omega
  unfold nbc at hq
  unfold c31
  simp (maxSteps := 10000000) +contextual [go_sem, hq, hlen, d1, d2, o0_26, n26]
theorem look18c {H : AHeap} {q N w b : Nat} {c0 c1 c2 c3 c4 c5 : Bool} {lost f t : Int} {L : List AVal} {x y : AVal} (lq : q < H.n) (hq : H.get q = .cells (nbc c0 c1 c2 c3 c4 c5 (.sl w 0 N none) lost) 56 12 .fixed) (h0 : 0 < N) (lw : w < H.n) (hW : H.get w = .cells L 39 3 .elastic) (hL : 3 ≤ L.length) (h3 : L.take 3 = [.int .i64 f, .int .i64 t, .sl b 0 2 none]) (lb : b < H.n) (hb : H.get b = .cells [x, y] 5 1 .elastic) (hx : x.isCell = true) (hy : y.isCell = true) :
    ∃ H', denF Ω1 none2 c18 [.ptr q 0, .int .i64 0] H = some (.tup [.agg [.int .i64 f, .int .i64 t, .sl (H.n + 4) 0 2 none], .int .i64 0], H') ∧ H'.n = H.n + 5 ∧ (∀ z, z < H.n → H'.get z = H.get z) ∧ H'.get (H.n + 4) = .cells [x, y] 5 1 .elastic := by
  have hlen : lenK (some (.sl w 0 N none)) = some (.int .i64 N) := rfl
  have hq1 : (H.push (.cells [.int .i64 0, .int .i64 0, .nils] 39 3 .fixed)).get q = .cells (nbc c0 c1 c2 c3 c4 c5 (.sl w 0 N none) lost) 56 12 .fixed := by rw [AHeap.get_push, if_neg (by omega)]; exact hq
  have ha := at31c hq1 hlen h0
  obtain ⟨H1, e1, n1, z1, g1⟩ := copied2 (H := H.push (.cells [.int .i64 0, .int .i64 0, .nils] 39 3 .fixed)) (f := f) (t := t) (c := none) (b := b) (by rw [AHeap.get_push, if_neg (by omega)]; exact hb) (by simp; omega) hx hy
  simp only [AHeap.n_push] at e1 n1 z1 g1
  have gz : H1.get H.n = .cells [.int .i64 0, .int .i64 0, .nils] 39 3 .fixed := by rw [z1 _ (by omega), AHeap.get_push, if_pos rfl]
  have zz : ∀ z, z < H.n → H1.get z = H.get z := fun z h => by rw [z1 z (by omega), AHeap.get_push, if_neg (by omega)]
  rw [show H.n + 1 + 3 = H.n + 4 by omega] at e1 g1
  refine ⟨H1.set H.n (.cells [.int .i64 f, .int .i64 t, .sl (H.n + 4) 0 2 none] 39 3 .fixed), ?_, by simpa using n1, fun z h => by rw [AHeap.get_set, if_neg (by omega)]; exact zz z h, by rw [AHeap.get_set, if_neg (by omega)]; exact g1⟩
  have d1 : ¬ q = H.n := by omega
  have d2 : ¬ w = H.n := by omega
  have d3 : (0 : Int) < (N : Int) := by omega
  have d5 : H.n < H1.n := by omega
  unfold nbc at hq
  unfold c18
  simp (maxSteps := 10000000) +contextual [go_sem, hq, lq, hW, lw, o1_31, o1_28, ha, e1, gz, d1, d2, d3, d5, h0, hL, h3]
def Ω6 : Phi := updP (updP none2 18 (denF Ω1 none2 c18)) 29 (denF none2 none2 c29)
theorem o6_18 (l : List AVal) (H : AHeap) : Ω6 18 l H = denF Ω1 none2 c18 l H := (rfl)
theorem o6_29 (l : List AVal) (H : AHeap) : Ω6 29 l H = denF none2 none2 c29 l H := (rfl)
theorem deliver16 {H : AHeap} {q : Nat} {c0 c1 c2 c3 c4 c5 : Bool} {way : AVal} {lost : Int} {p : Pk} {ps : List Pk} (lq : q < H.n) (hq : H.get q = .cells (nbc c0 c1 c2 c3 c4 c5 way lost) 56 12 .fixed) (hw : WayD H way (p :: ps)) (hp : PkOK H p) (hN : ps.length ≤ 200) :
    ∃ H' way' nb, denF Ω6 none2 c16 [.ptr q 0, .int .i64 0] H = some (.tup [.agg [.int .i64 (frK p.k), .int .i64 (toK p.k), .sl nb 0 2 none], .int .i64 0], H') ∧ H.n ≤ H'.n ∧ nb < H'.n ∧ H'.get nb = .cells [.int .u8 p.i, .int .u8 p.k] 5 1 .elastic ∧ H'.get q = .cells (nbc c0 c1 c2 c3 c4 c5 way' lost) 56 12 .fixed ∧ WayD H' way' ps ∧
      (∀ z, z < H.n → z ≠ q → (∀ L, H.get z ≠ .cells L 39 3 .elastic) → H'.get z = H.get z) := by
  obtain ⟨pk, pi, lb, hb⟩ := hp
  rcases hw with ⟨h, _⟩ | ⟨w, Z, rfl, lw, hW⟩
  · simp at h
  have e0 : ∀ z, z < H.n → (H.push (.cells [.int .i64 0, .int .i64 0, .nils] 39 3 .fixed)).get z = H.get z := fun z h => by rw [AHeap.get_push, if_neg (by omega)]
  obtain ⟨H1, e1, n1, z1, g1⟩ := look18c (f := frK p.k) (t := toK p.k) (b := p.b) (H := H.push (.cells [.int .i64 0, .int .i64 0, .nils] 39 3 .fixed)) (by simp; omega) ((e0 q lq).trans hq) (show 0 < (p :: ps).length by simp) (by simp; omega) ((e0 w lw).trans hW) (by simp [flatP_len]; omega) (show (flatP (p :: ps) ++ Z).take 3 = _ by simp only [flatP, List.cons_append, List.take_succ_cons, List.take_zero]) (by simp; omega) ((e0 p.b lb).trans hb) rfl rfl
  simp only [AHeap.n_push] at e1 n1 z1 g1
  have z1' : ∀ z, z < H.n → H1.get z = H.get z := fun z h => (z1 z (by omega)).trans (e0 z h)
  -- the copy's own variable
  obtain ⟨G, hG⟩ : ∃ G, G = (H1.push (.cells [.int .i64 0, .int .i64 0, .nils] 39 3 .fixed)).set H1.n (.cells [.int .i64 (frK p.k), .int .i64 (toK p.k), .sl (H.n + 1 + 4) 0 2 none] 39 3 .fixed) := ⟨_, rfl⟩
  have Gn : G.n = H.n + 7 := by rw [hG]; simp [n1]
  have Gz : ∀ z, z < H1.n → G.get z = H1.get z := fun z h => by rw [hG, AHeap.get_set, if_neg (by omega), AHeap.get_push, if_neg (by omega)]
  have Gz' : ∀ z, z < H.n → G.get z = H.get z := fun z h => (Gz z (by omega)).trans (z1' z h)
  have Gp : G.get (H.n + 6) = .cells [.int .i64 (frK p.k), .int .i64 (toK p.k), .sl (H.n + 1 + 4) 0 2 none] 39 3 .fixed := by
    have : H.n + 6 = H1.n := by omega
    rw [hG, this, AHeap.get_set, if_pos rfl]
  have G0 : G.get H.n = .cells [.int .i64 0, .int .i64 0, .nils] 39 3 .fixed := by rw [Gz _ (by omega), z1 _ (by omega), AHeap.get_push, if_pos rfl]
  obtain ⟨G2, Z', e2, n2, z2, g2⟩ := delete29 (H := G) (w := w) (K := ps.length) (c0 := [.int .i64 (frK p.k), .int .i64 (toK p.k), .sl p.b 0 2 none]) (M := flatP ps) (Z := Z) ((Gz' w lw).trans hW) (by omega) rfl (flatP_len ps) (flatP_cell ps) (by omega)
  have hqw : q ≠ w := ne_get hq hW (by simp)
  have q2 : G2.get q = _ := (z2 q hqw).trans ((Gz' q lq).trans hq)
  have p2 : G2.get (H.n + 6) = _ := (z2 _ (by omega)).trans Gp
  have o2 : G2.get H.n = _ := (z2 _ (by omega)).trans G0
  have b2 : G2.get (H.n + 1 + 4) = .cells [.int .u8 p.i, .int .u8 p.k] 5 1 .elastic := (z2 _ (by omega)).trans ((Gz _ (by omega)).trans g1)
  refine ⟨(G2.set q (.cells (nbc c0 c1 c2 c3 c4 c5 (.sl w 0 ps.length none) lost) 56 12 .fixed)).set H.n (.cells [.int .i64 (frK p.k), .int .i64 (toK p.k), .sl (H.n + 1 + 4) 0 2 none] 39 3 .fixed), .sl w 0 ps.length none, H.n + 1 + 4, ?_, by simp; omega, by simp; omega, by rw [AHeap.get_set, if_neg (by omega), AHeap.get_set, if_neg (by omega)]; exact b2, by rw [AHeap.get_set, if_neg (by omega), AHeap.get_set, if_pos rfl], .inr ⟨w, Z', rfl, by simp; omega, by rw [AHeap.get_set, if_neg (by omega), AHeap.get_set, if_neg (Ne.symm hqw)]; exact g2⟩, fun z hz h1 h2 => by rw [AHeap.get_set, if_neg (by omega), AHeap.get_set, if_neg h1, z2 z (fun e => h2 _ (by rw [e]; exact hW))]; exact Gz' z hz⟩
  have d1 : H1.n = H.n + 6 := by omega
  have d2 : G2.n = H.n + 7 := by omega
  have d3 : ¬ q = H.n := by omega
  have d4 : ¬ H.n = q := by omega
  have d5 : ¬ q = H.n + 6 := by omega
  have d6 : ¬ H.n + 6 = q := by omega
  have hw1 : IntKind.i64.wrap 1 = 1 := by rw [IntKind.wrap_i64]; omega
  have q1 := (z1' q lq).trans hq
  rw [hG, d1] at e2
  unfold nbc at hq q1 q2 ⊢
  unfold c16
  simp (maxSteps := 10000000) +contextual [go_sem, o6_18, o6_29, e1, e2, d1, d2, d3, d4, d5, d6, hw1, q1, q2, p2, o2]
end Go.Eng.SeatC
