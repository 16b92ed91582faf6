/- Layer 14: NetKeeps, what is dropped, and doubled. -/
import Derived.Test.YtgmaknppneonfaaScQ
set_option linter.unusedSimpArgs false
set_option linter.unusedVariables false
set_option maxHeartbeats 40000000
namespace Go.Eng.SeatC
open Go.Proofs
theorem dropq_bad {H : AHeap} {q : Nat} {u0 u1 u2 u3 u4 u5 u6 u7 u8 : Bool} {way : AVal} {lost : Int} (lq : q < H.n) (hq : H.get q = .cells (nbq u0 u1 u2 u3 u4 u5 u6 u7 u8 way lost) 56 12 .fixed) {N : Nat} {i : Int} (hlen : lenK (some way) = some (.int .i64 N)) (hi : i < 0 ∨ (N : Int) ≤ i) : ∃ H', denF Ω7 none2 c20 [.ptr q 0, .int .i64 i] H = some (.int .i64 5, H') ∧ H.n ≤ H'.n ∧ (∀ z, z < H.n → H'.get z = H.get z) := by
  obtain ⟨H1, e1, n1, z1⟩ := deliverq_bad lq hq hlen hi
  refine ⟨(H1.push (.cells [.int .i64 0, .int .i64 0, .nils] 39 3 .fixed)).set H1.n (.cells [.int .i64 0, .int .i64 0, .nils] 39 3 .fixed), ?_, by simp; omega, fun z h => by rw [AHeap.get_set, if_neg (by omega), AHeap.get_push, if_neg (by omega)]; exact z1 z h⟩
  unfold c20
  simp (maxSteps := 10000000) +contextual [go_sem, o7_16, e1]
theorem dropq_ok {H : AHeap} {q : Nat} {u0 u1 u2 u3 u4 u5 u6 u7 u8 : Bool} {way : AVal} {lost : Int} {A B : List Pq} {p : Pq} (lq : q < H.n) (hq : H.get q = .cells (nbq u0 u1 u2 u3 u4 u5 u6 u7 u8 way lost) 56 12 .fixed) (hw : WayQ H way (A ++ p :: B)) (hp : PqB H p) (hN : A.length + B.length ≤ 200) (hl : 0 ≤ lost ∧ lost ≤ 10000) :
    ∃ H' way', denF Ω7 none2 c20 [.ptr q 0, .int .i64 A.length] H = some (.int .i64 0, H') ∧ H'.get q = .cells (nbq u0 u1 u2 u3 u4 u5 u6 u7 u8 way' (lost + 1)) 56 12 .fixed ∧ WayQ H' way' (A ++ B) ∧ FrQ H H' q := by
  obtain ⟨H1, way', nb, e1, lnb, gnb, q1, w1, fr⟩ := deliverq_ok lq hq hw hp hN
  have hw1 : IntKind.i64.wrap (lost + 1) = lost + 1 := by rw [IntKind.wrap_i64]; omega
  have f1 := fr.1
  have d1 : ¬ q = H1.n := by omega
  have d2 : q < H1.n + 1 := by omega
  have lq1 : q < H1.n := by omega
  refine ⟨((H1.push (.cells [.int .i64 0, .int .i64 0, .nils] 39 3 .fixed)).set H1.n (.cells [.int .i64 p.f, .int .i64 p.t, .sl nb 0 2 none] 39 3 .fixed)).set q (.cells (nbq u0 u1 u2 u3 u4 u5 u6 u7 u8 way' (lost + 1)) 56 12 .fixed), way', ?_, by rw [AHeap.get_set, if_pos rfl], ?_, by simp; omega, fun z hz h1 h2 => by rw [AHeap.get_set, if_neg h1, AHeap.get_set, if_neg (by omega), AHeap.get_push, if_neg (by omega)]; exact fr.2 z hz h1 h2⟩
  · unfold nbq at q1 ⊢
    unfold c20
    simp (maxSteps := 10000000) +contextual [go_sem, o7_16, e1, q1, lq1, hw1, d1, d2]
  · rcases w1 with h | ⟨w, Z, a1, a2, a3⟩
    · exact .inl h
    · exact .inr ⟨w, Z, a1, by simp; omega, by rw [AHeap.get_set, if_neg (ne_get a3 q1 (by simp)), AHeap.get_set, if_neg (by omega), AHeap.get_push, if_neg (by omega)]; exact a3⟩
theorem insertq {G G' : AHeap} {w s N : Nat} {L : List AVal} {v r : AVal} (hW : G.get w = .cells L 39 3 .elastic) (lw : w < G.n) (hs : sliceBlk w 0 N 3 (some (.int .i64 N)) none (.cells L 39 3 .elastic) = some v)
    (ap : appendA G 39 3 40 (.sl w 0 N none) (.sl s 0 1 (some 1)) = some (r, G')) :
    denF none2 none2 c30 [.sl w 0 N none, .int .i64 N, .sl s 0 1 (some 1)] G = some (r, G') := by
  unfold c30
  simp (maxSteps := 10000000) +contextual [go_sem, hW, lw, hs, ap]
theorem tail_some {w N : Nat} {L : List AVal} (h : N * 3 ≤ L.length) : ∃ v, sliceBlk w 0 N 3 (some (.int .i64 N)) none (.cells L 39 3 .elastic) = some v := by
  simp only [sliceBlk, if_true, abounds, Option.bind_some]
  rw [if_pos (by omega)]
  simp only [Option.bind_some, Int.toNat_natCast]
  split
  · exact ⟨_, rfl⟩
  · split
    · exact ⟨_, rfl⟩
    · split
      · exact ⟨_, rfl⟩
      · exact absurd trivial (by assumption)
theorem doubleq_bad {H : AHeap} {q : Nat} {u0 u1 u2 u3 u4 u5 u6 u7 u8 : Bool} {way : AVal} {lost : Int} (lq : q < H.n) (hq : H.get q = .cells (nbq u0 u1 u2 u3 u4 u5 u6 u7 u8 way lost) 56 12 .fixed) {N : Nat} {i : Int} (hlen : lenK (some way) = some (.int .i64 N)) (hi : i < 0 ∨ (N : Int) ≤ i) : ∃ H', denF Ω2 none2 c17 [.ptr q 0, .int .i64 i] H = some (.int .i64 5, H') ∧ H.n ≤ H'.n ∧ (∀ z, z < H.n → H'.get z = H.get z) := by
  obtain ⟨H1, e1, n1, z1⟩ := lookq_bad lq hq hlen hi
  refine ⟨(H1.push (.cells [.int .i64 0, .int .i64 0, .nils] 39 3 .fixed)).set H1.n (.cells [.int .i64 0, .int .i64 0, .nils] 39 3 .fixed), ?_, by simp; omega, fun z h => by rw [AHeap.get_set, if_neg (by omega), AHeap.get_push, if_neg (by omega)]; exact z1 z h⟩
  unfold c17
  simp (maxSteps := 10000000) +contextual [go_sem, o2_18, e1]
theorem doubleq_ok {H : AHeap} {q : Nat} {u0 u1 u2 u3 u4 u5 u6 u7 u8 : Bool} {way : AVal} {lost : Int} {A B : List Pq} {p : Pq} (lq : q < H.n) (hq : H.get q = .cells (nbq u0 u1 u2 u3 u4 u5 u6 u7 u8 way lost) 56 12 .fixed) (hw : WayQ H way (A ++ p :: B)) (hp : PqB H p) (hN : A.length + B.length ≤ 190) :
    ∃ H' way' nb, denF Ω2 none2 c17 [.ptr q 0, .int .i64 A.length] H = some (.int .i64 0, H') ∧ H'.get q = .cells (nbq u0 u1 u2 u3 u4 u5 u6 u7 u8 way' lost) 56 12 .fixed ∧ PqB H' ⟨p.f, p.t, p.s, nb⟩ ∧ WayQ H' way' (A ++ p :: B ++ [⟨p.f, p.t, p.s, nb⟩]) ∧ FrQ H H' q := by
  have hw0 := hw
  obtain ⟨lb, hb⟩ := hp
  rcases hw with ⟨h, _⟩ | ⟨w, Z, rfl, lw, hW⟩
  · simp at h
  have hlen : (A ++ p :: B).length = (A.length + B.length) + 1 := by simp; omega
  have hLA := flatQ_len A
  have hLB := flatQ_len B
  have hflat : flatQ (A ++ p :: B) ++ Z = flatQ A ++ [.int .i64 p.f, .int .i64 p.t, .sl p.b 0 2 none] ++ flatQ B ++ Z := by simp [flatQ_app, flatQ]
  rw [hflat] at hW
  obtain ⟨H1, e1, n1, z1, g1⟩ := lookq_ok (i := A.length) (f := p.f) (t := p.t) (b := p.b) lq hq (by omega) lw hW (by simp only [List.length_append, hLA, hLB, List.length_cons, List.length_nil]; omega) (by
    simp only [List.append_assoc]
    rw [List.drop_left' hLA]; simp) lb hb rfl rfl
  obtain ⟨v, hv⟩ := tail_some (w := w) (N := (A ++ p :: B).length) (L := flatQ A ++ [.int .i64 p.f, .int .i64 p.t, .sl p.b 0 2 none] ++ flatQ B ++ Z) (by simp only [List.length_append, hLA, hLB, List.length_cons, List.length_nil]; omega)
  obtain ⟨G, hG⟩ : ∃ G, G = (H1.push (.cells [.int .i64 0, .int .i64 0, .nils] 39 3 .fixed)).set H1.n (.cells [.int .i64 p.f, .int .i64 p.t, .sl (H.n + 4) 0 2 none] 39 3 .fixed) := ⟨_, rfl⟩
  have Gn : G.n = H.n + 6 := by rw [hG]; simp [n1]
  have Gz : ∀ z, z < H1.n → G.get z = H1.get z := fun z h => by rw [hG, AHeap.get_set, if_neg (by omega), AHeap.get_push, if_neg (by omega)]
  have Gz' : ∀ z, z < H.n → G.get z = H.get z := fun z h => (Gz z (by omega)).trans (z1 z (by omega))
  have Gp : G.get (H.n + 5) = .cells [.int .i64 p.f, .int .i64 p.t, .sl (H.n + 4) 0 2 none] 39 3 .fixed := by
    have : H.n + 5 = H1.n := by omega
    rw [hG, this, AHeap.get_set, if_pos rfl]
  have hway : WayQ (G.push (.cells [.int .i64 p.f, .int .i64 p.t, .sl (H.n + 4) 0 2 none] 39 3 .fixed)) (.sl w 0 (A ++ p :: B).length none) (A ++ p :: B) :=
    .inr ⟨w, Z, rfl, by simp; omega, by rw [AHeap.get_push, if_neg (by omega), Gz' w lw, hflat]; exact hW⟩
  obtain ⟨G2, w', e2, n2, g2, w2⟩ := wayq_app (s := H.n + 6) (p := ⟨p.f, p.t, p.s, H.n + 4⟩) hway (by rw [AHeap.get_push, if_pos Gn.symm]) (by omega)
  simp only [AHeap.n_push, Gn] at n2 g2
  have hqw : q ≠ w := ne_get hq hW (by simp)
  have ew : ∀ z, z ≠ w → ∀ m, (.sl w 0 (A ++ p :: B).length none : AVal) ≠ .sl z 0 m none := fun z h m e => by
    simp only [AVal.sl.injEq] at e; exact h e.1.symm
  have fr : ∀ z, z < H.n → z ≠ w → G2.get z = H.get z := fun z hz h => by rw [g2 z (by omega) (ew z h), AHeap.get_push, if_neg (by omega)]; exact Gz' z hz
  have q2 := (fr q lq hqw).trans hq
  have gb : G2.get (H.n + 4) = .cells [.int .u8 p.s, .int .u8 p.f] 5 1 .elastic := by
    rw [g2 _ (by omega) (ew _ (by omega)), AHeap.get_push, if_neg (by omega), Gz _ (by omega)]; exact g1
  refine ⟨G2.set q (.cells (nbq u0 u1 u2 u3 u4 u5 u6 u7 u8 (.sl w' 0 ((A ++ p :: B).length + 1) none) lost) 56 12 .fixed), .sl w' 0 ((A ++ p :: B).length + 1) none, H.n + 4, ?_, by rw [AHeap.get_set, if_pos rfl], ⟨by simp; omega, by show AHeap.get _ (H.n + 4) = _; rw [AHeap.get_set, if_neg (by omega)]; exact gb⟩, ?_, by simp; omega, fun z hz h1 h2 => by rw [AHeap.get_set, if_neg h1]; exact fr z hz (fun e => h2 _ (by rw [e]; exact hW))⟩
  · have d1 : H1.n = H.n + 5 := n1
    have d3 : ¬ q = H.n + 5 := by omega
    have d4 : q < H.n + 5 + 1 := by omega
    have d5 : q < G2.n := by omega
    have q1 := (Gz' q lq).trans hq
    have c1 : ¬ (4096 : Int) ≤ ((A ++ p :: B).length : Int) := by omega
    have hi := insertq (G := G.push (.cells [.int .i64 p.f, .int .i64 p.t, .sl (H.n + 4) 0 2 none] 39 3 .fixed)) (s := H.n + 6) (by rw [AHeap.get_push, if_neg (by omega), Gz' w lw]; exact hW) (by simp; omega) hv e2
    generalize (A ++ p :: B).length = N at *
    rw [d1] at hG
    unfold nbq at hq q1 q2 ⊢
    unfold c17
    simp (maxSteps := 10000000) +contextual [go_sem, o2_18, e1, d1, ← hG, Gn, Gp, q1, d3, d4, d5, c1, o2_30, hi, q2]
  · rcases w2 with ⟨h, _⟩ | ⟨w3, Z', a1, a2, a3⟩
    · simp at h
    · exact .inr ⟨w3, Z', a1, by simpa using a2, by rw [AHeap.get_set, if_neg (ne_get a3 q2 (by simp))]; exact a3⟩
end Go.Eng.SeatC
