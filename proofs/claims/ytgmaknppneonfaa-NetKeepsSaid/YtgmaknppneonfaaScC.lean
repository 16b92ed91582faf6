/- Layer 14: a net doubles. -/
import Derived.Test.YtgmaknppneonfaaScB
set_option linter.unusedSimpArgs false
set_option linter.unusedVariables false
set_option maxHeartbeats 40000000
namespace Go.Eng.SeatC
open Go.Proofs
theorem at31 {H : AHeap} {q N : Nat} {way : AVal} {lost : Int} (hq : H.get q = .cells (nb way lost) 56 12 .fixed) (hlen : lenK (some way) = some (.int .i64 N)) (h0 : 0 < N) : denF Ω0 none2 c31 [.ptr q 0, .int .i64 0] H = some (.int .i64 0, H) := by
  have n26 := none26 hq
  have c1 : ¬ (N : Int) ≤ 0 := by omega
  have c2 : ¬ N = 0 := by omega
  unfold nb at hq
  unfold c31
  simp (maxSteps := 10000000) +contextual [go_sem, hq, hlen, c1, c2, o0_26, n26]
def Ω1 : Phi := updP Ω0 31 (denF Ω0 none2 c31)
theorem oko1 : ∀ f, Sound Try.prog f (Ω1 f) := updP_ok oko0 (fun_sound oko0 none_soundD mixed Try.func31 cal31 comp31)
theorem o1_31 (l : List AVal) (H : AHeap) : Ω1 31 l H = denF Ω0 none2 c31 l H := (rfl)
theorem o1_28 (l : List AVal) (H : AHeap) : Ω1 28 l H = denF none2 none2 c28 l H := (rfl)
theorem look18 {H : AHeap} {q N w b : Nat} {lost f t : Int} {L : List AVal} {x : AVal} (lq : q < H.n) (hq : H.get q = .cells (nb (.sl w 0 N none) lost) 56 12 .fixed) (h0 : 0 < N) (lw : w < H.n) (hW : H.get w = .cells L 39 3 .elastic) (hL : L.length = N * 3) (h3 : L.take 3 = [.int .i64 f, .int .i64 t, .sl b 0 1 none]) (lb : b < H.n) (hb : H.get b = .cells [x] 5 1 .elastic) (hx : x.isCell = true) :
    ∃ H', denF Ω1 none2 c18 [.ptr q 0, .int .i64 0] H = some (.tup [.agg [.int .i64 f, .int .i64 t, .sl (H.n + 4) 0 1 none], .int .i64 0], H') ∧ H'.n = H.n + 5 ∧ (∀ z, z < H.n → H'.get z = H.get z) ∧ H'.get (H.n + 4) = .cells [x] 5 1 .elastic := by
  have hlen : lenK (some (.sl w 0 N none)) = some (.int .i64 N) := rfl
  have hq1 : (H.push (.cells [.int .i64 0, .int .i64 0, .nils] 39 3 .fixed)).get q = .cells (nb (.sl w 0 N none) lost) 56 12 .fixed := by rw [AHeap.get_push, if_neg (by omega)]; exact hq
  have ha := at31 hq1 hlen h0
  obtain ⟨H1, e1, n1, z1, g1⟩ := copied28 (H := H.push (.cells [.int .i64 0, .int .i64 0, .nils] 39 3 .fixed)) (f := f) (t := t) (c := none) (b := b) (by rw [AHeap.get_push, if_neg (by omega)]; exact hb) (by simp; omega) hx
  simp only [AHeap.n_push] at e1 n1 z1 g1
  have gz : H1.get H.n = .cells [.int .i64 0, .int .i64 0, .nils] 39 3 .fixed := by rw [z1 _ (by omega), AHeap.get_push, if_pos rfl]
  have zz : ∀ z, z < H.n → H1.get z = H.get z := fun z h => by rw [z1 z (by omega), AHeap.get_push, if_neg (by omega)]
  rw [show H.n + 1 + 3 = H.n + 4 by omega] at e1 g1
  refine ⟨H1.set H.n (.cells [.int .i64 f, .int .i64 t, .sl (H.n + 4) 0 1 none] 39 3 .fixed), ?_, by simpa using n1, fun z h => by rw [AHeap.get_set, if_neg (by omega)]; exact zz z h, by rw [AHeap.get_set, if_neg (by omega)]; exact g1⟩
  have d1 : ¬ q = H.n := by omega
  have d2 : ¬ w = H.n := by omega
  have d3 : (0 : Int) < (N : Int) := by omega
  have d4 : 3 ≤ N * 3 := by omega
  have d5 : H.n < H1.n := by omega
  unfold nb at hq
  unfold c18
  simp (maxSteps := 10000000) +contextual [go_sem, hq, lq, hW, lw, o1_31, o1_28, ha, e1, gz, d1, d2, d3, d4, d5, h0, hL, h3]
theorem insert30 {G G' : AHeap} {w s N : Nat} {L : List AVal} (h0 : 0 < N) (hN : N ≤ 4200) (hW : G.get w = .cells L 39 3 .elastic) (hL : L.length = N * 3) (lw : w < G.n)
    (ap : appendA G 39 3 40 (.sl w 0 N none) (.sl s 0 1 (some 1)) = some (.sl G.n 0 (N + 1) none, G')) :
    denF none2 none2 c30 [.sl w 0 N none, .int .i64 N, .sl s 0 1 (some 1)] G = some (.sl G.n 0 (N + 1) none, G') := by
  have hs : sliceBlk w 0 N 3 (some (.int .i64 N)) none (.cells L 39 3 .elastic) = some (.etail w 0 N 3) := by
    have e1 : (L.length - 0) / 3 = N := by omega
    simp only [sliceBlk, if_true, e1, abounds, Option.bind_some]
    rw [if_pos (by omega)]
    simp only [Option.bind_some, Int.toNat_natCast]
    rw [if_neg (by omega), if_neg (by omega), if_pos trivial]
  unfold c30
  simp (maxSteps := 10000000) +contextual [go_sem, hW, lw, hs, ap]
def Ω2 : Phi := updP (updP Ω1 18 (denF Ω1 none2 c18)) 30 (denF none2 none2 c30)
theorem oko2 : ∀ f, Sound Try.prog f (Ω2 f) := updP_ok (updP_ok oko1 (fun_sound oko1 none_soundD mixed Try.func18 cal18 comp18)) (fun_sound none_sound none_soundD mixed Try.func30 cal30 comp30)
theorem o2_18 (l : List AVal) (H : AHeap) : Ω2 18 l H = denF Ω1 none2 c18 l H := (rfl)
theorem o2_30 (l : List AVal) (H : AHeap) : Ω2 30 l H = denF none2 none2 c30 l H := (rfl)
theorem JN.double {H : AHeap} {q N : Nat} {lost : Int} (J : JN H q N lost) (h0 : 0 < N) (hN : N ≤ 4096) :
    ∃ H', denF Ω2 none2 c17 [.ptr q 0, .int .i64 0] H = some (.int .i64 (if N < 4096 then 0 else 8), H') ∧ JN H' q (if N < 4096 then N + 1 else N) lost := by
  obtain ⟨lq, way, hw, hq⟩ := J
  have hw0 := hw
  rcases hw with ⟨rfl, _⟩ | ⟨w, L, f, t, b, x, _, rfl, lw, wq, hW, hL, h3, lb, bq, bw, hb, hx⟩
  · omega
  obtain ⟨H1, e1, n1, z1, g1⟩ := look18 lq hq h0 lw hW hL h3 lb hb hx
  -- the copy's own variable
  obtain ⟨G, hG⟩ : ∃ G, G = (H1.push (.cells [.int .i64 0, .int .i64 0, .nils] 39 3 .fixed)).set H1.n (.cells [.int .i64 f, .int .i64 t, .sl (H.n + 4) 0 1 none] 39 3 .fixed) := ⟨_, rfl⟩
  have Gn : G.n = H.n + 6 := by rw [hG]; simp [n1]
  have Gz : ∀ z, z < H1.n → G.get z = H1.get z := fun z h => by rw [hG, AHeap.get_set, if_neg (by omega), AHeap.get_push, if_neg (by omega)]
  have Gz' : ∀ z, z < H.n → G.get z = H.get z := fun z h => (Gz z (by omega)).trans (z1 z h)
  have Gp : G.get (H.n + 5) = .cells [.int .i64 f, .int .i64 t, .sl (H.n + 4) 0 1 none] 39 3 .fixed := by rw [hG, ← n1, AHeap.get_set, if_pos rfl]
  have Gq : G.get q = .cells (nb (.sl w 0 N none) lost) 56 12 .fixed := (Gz' q lq).trans hq
  have GW : G.get w = .cells L 39 3 .elastic := (Gz' w lw).trans hW
  have WG : WayOK G q (.sl w 0 N none) N := hw0.keep (by omega) fun z h _ => Gz' z h
  have d1 : H1.n = H.n + 5 := n1
  have d3 : q < H.n + 5 + 1 := by omega
  have d6 : w < H.n + 5 + 1 := by omega
  rw [d1] at hG
  by_cases hlt : N < 4096
  · have c1 : ¬ (4096 : Int) ≤ (N : Int) := by omega
    rw [if_pos hlt, if_pos hlt]
    obtain ⟨G2, e2, n2, g2, w2⟩ := way_app (G := G.push (.cells [.int .i64 f, .int .i64 t, .sl (H.n + 4) 0 1 none] 39 3 .fixed)) (s := H.n + 6) (f := f) (t := t) (b := H.n + 4) (x := x) (WG.keep (by simp) fun z h _ => by rw [AHeap.get_push, if_neg (by omega)]) (by rw [AHeap.get_push, if_pos Gn.symm]) (by simp only [AHeap.n_push, Gn]; omega) (by simp only [AHeap.n_push, Gn]; omega) (by simp only [AHeap.n_push, Gn]; omega) (by omega) (by rw [AHeap.get_push, if_neg (by omega), Gz _ (by omega)]; exact g1) hx (fun w' m h => by simp only [AVal.sl.injEq] at h; obtain ⟨rfl, _⟩ := h; omega) (by omega)
    simp only [AHeap.n_push, Gn] at e2 n2 w2
    have e3 := insert30 h0 (by omega) (G := G.push (.cells [.int .i64 f, .int .i64 t, .sl (H.n + 4) 0 1 none] 39 3 .fixed)) (G' := G2) (w := w) (s := H.n + 6) (N := N) (L := L) (by rw [AHeap.get_push, if_neg (by omega)]; exact GW) hL (by simp [Gn]; omega) (by simp only [AHeap.n_push, Gn]; exact e2)
    simp only [AHeap.n_push, Gn] at e3
    have gq : G2.get q = .cells (nb (.sl w 0 N none) lost) 56 12 .fixed := by rw [g2, AHeap.get_push, if_neg (by omega)]; exact Gq
    refine ⟨G2.set q (.cells (nb (.sl (H.n + 6 + 1) 0 (N + 1) none) lost) 56 12 .fixed), ?_, ⟨by simp; omega, _, w2.keep (by simp) fun z _ h => by rw [AHeap.get_set, if_neg h], by rw [AHeap.get_set, if_pos rfl]⟩⟩
    have d4 : q < G2.n := by omega
    have d5 : ¬ q = H.n + 5 := by omega
    have d7 : H.n + 5 < G2.n := by omega
    have d8 : H.n + 5 + 1 = H.n + 6 := by omega
    have gp2 : G2.n = H.n + 6 + 1 + 1 := n2
    rw [hG] at e3
    have z1q := (z1 q lq).trans hq
    unfold nb at hq gq z1q ⊢
    unfold c17
    simp (maxSteps := 10000000) +contextual [go_sem, hq, lq, o2_18, o2_30, e1, c1, d1, d3, d4, d5, d7, d8, z1q, e3, gq, h0]
  · have c1 : (4096 : Int) ≤ (N : Int) := by omega
    rw [if_neg hlt, if_neg hlt]
    refine ⟨G, ?_, ⟨by omega, _, WG, Gq⟩⟩
    have z1q := (z1 q lq).trans hq
    have d5 : ¬ q = H.n + 5 := by omega
    rw [hG]
    unfold nb at hq z1q
    unfold c17
    simp (maxSteps := 10000000) +contextual [go_sem, hq, lq, o2_18, o2_30, e1, c1, d1, d3, d5, z1q]
end Go.Eng.SeatC
