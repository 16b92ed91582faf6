/- Layer 14: NetKeeps, what a net does. -/
import Derived.Test.YtgmaknppneonfaaScI
set_option linter.unusedSimpArgs false
set_option linter.unusedVariables false
set_option maxHeartbeats 40000000
namespace Go.Eng.SeatC
open Go.Proofs
structure Pq where
  f : Int
  t : Int
  s : Nat
  b : Nat
def flatQ : List Pq → List AVal
  | [] => []
  | p :: ps => .int .i64 p.f :: .int .i64 p.t :: .sl p.b 0 2 none :: flatQ ps
theorem flatQ_len : ∀ (ps : List Pq), (flatQ ps).length = ps.length * 3
  | [] => rfl
  | p :: ps => by simp only [flatQ, List.length_cons, flatQ_len ps]; omega
theorem flatQ_app : ∀ (a b : List Pq), flatQ (a ++ b) = flatQ a ++ flatQ b
  | [], b => rfl
  | p :: a, b => by simp [flatQ, flatQ_app a b]
theorem flatQ_cell : ∀ (ps : List Pq), (flatQ ps).all AVal.isCell = true
  | [] => rfl
  | p :: ps => by simp only [flatQ, List.all_cons, flatQ_cell ps]; rfl
def PqB (H : AHeap) (p : Pq) : Prop := p.b < H.n ∧ H.get p.b = .cells [.int .u8 p.s, .int .u8 p.f] 5 1 .elastic
def WayQ (H : AHeap) (way : AVal) (ps : List Pq) : Prop := (ps = [] ∧ way = .nils) ∨ ∃ w Z, way = .sl w 0 ps.length none ∧ w < H.n ∧ H.get w = .cells (flatQ ps ++ Z) 39 3 .elastic
theorem WayQ.len {H : AHeap} {way : AVal} {ps : List Pq} (h : WayQ H way ps) : lenK (some way) = some (.int .i64 ps.length) := by
  rcases h with ⟨rfl, rfl⟩ | ⟨w, _, rfl, _⟩ <;> rfl
theorem WayQ.beq {H : AHeap} {way : AVal} {ps : List Pq} (h : WayQ H way ps) : way.beq way = true := by
  rcases h with ⟨rfl, rfl⟩ | ⟨w, _, rfl, _⟩ <;> simp [AVal.beq]
theorem WayQ.ne {H : AHeap} {way : AVal} {ps : List Pq} (h : WayQ H way ps) {z : Nat} {x : ABlk} (hz : H.get z = x) (hx : ∀ L, x ≠ .cells L 39 3 .elastic) : ∀ m, way ≠ .sl z 0 m none := by
  intro m e
  rcases h with ⟨_, rfl⟩ | ⟨w, _, rfl, _, hw⟩
  · simp at e
  · simp only [AVal.sl.injEq] at e; obtain ⟨rfl, _⟩ := e; exact hx _ (hz.symm.trans hw)
/-- What a call leaves alone: all but the net, and what is on its way. -/
def FrQ (H H' : AHeap) (q : Nat) : Prop := H.n ≤ H'.n ∧ ∀ z, z < H.n → z ≠ q → (∀ L, H.get z ≠ .cells L 39 3 .elastic) → H'.get z = H.get z
theorem FrQ.refl (H : AHeap) (q : Nat) : FrQ H H q := ⟨Nat.le_refl _, fun _ _ _ _ => rfl⟩
def nbq (u0 u1 u2 u3 u4 u5 u6 u7 u8 : Bool) (way : AVal) (lost : Int) : List AVal := [.bool true, .bool u0, .bool u1, .bool u2, .bool u3, .bool u4, .bool u5, .bool u6, .bool u7, .bool u8, way, .int .i64 lost]
theorem noneq {H : AHeap} {q : Nat} {u0 u1 u2 u3 u4 u5 u6 u7 u8 : Bool} {way : AVal} {lost : Int} (hq : H.get q = .cells (nbq u0 u1 u2 u3 u4 u5 u6 u7 u8 way lost) 56 12 .fixed) : denF none2 none2 c26 [.ptr q 0] H = some (.bool false, H) := by
  unfold nbq at hq
  unfold c26
  simp (maxSteps := 10000000) +contextual [go_sem, hq]
def linkL (f t : Int) : Bool := decide (0 ≤ f) && decide (f < 3) && decide (0 ≤ t) && decide (t < 3) && !decide (f = t)
theorem linkq {H : AHeap} (f t : Int) : denF none2 none2 c27 [.int .i64 f, .int .i64 t] H = some (.bool (linkL f t), H) := by
  unfold c27 linkL
  by_cases a : 0 ≤ f
  case neg => simp (maxSteps := 10000000) +contextual [go_sem, a]
  by_cases b : f < 3
  case neg => simp (maxSteps := 10000000) +contextual [go_sem, a, b]
  by_cases c : 0 ≤ t
  case neg => simp (maxSteps := 10000000) +contextual [go_sem, a, b, c]
  by_cases d : t < 3
  case neg => simp (maxSteps := 10000000) +contextual [go_sem, a, b, c, d]
  by_cases e : f = t
  · subst e; simp (maxSteps := 10000000) +contextual [go_sem, a, b]
  · simp (maxSteps := 10000000) +contextual [go_sem, a, b, c, d, e]
theorem wayq_app {G : AHeap} {s : Nat} {way : AVal} {ps : List Pq} {p : Pq} (h : WayQ G way ps) (hs : G.get s = .cells [.int .i64 p.f, .int .i64 p.t, .sl p.b 0 2 none] 39 3 .fixed) (hN : ps.length ≤ 200) :
    ∃ G' w', appendA G 39 3 40 way (.sl s 0 1 (some 1)) = some (.sl w' 0 (ps.length + 1) none, G') ∧ G.n ≤ G'.n ∧ (∀ z, z < G.n → (∀ m, way ≠ .sl z 0 m none) → G'.get z = G.get z) ∧ WayQ G' (.sl w' 0 (ps.length + 1) none) (ps ++ [p]) := by
  rcases h with ⟨rfl, rfl⟩ | ⟨w, Z, rfl, lw, hw⟩
  · refine ⟨G.push (.cells [.int .i64 p.f, .int .i64 p.t, .sl p.b 0 2 none] 39 3 .elastic), G.n, by simp [appendA, lenA, srcCells, hs, AVal.isCell], by simp, fun z hz _ => by rw [AHeap.get_push, if_neg (by omega)], .inr ⟨G.n, [], rfl, by simp, by rw [AHeap.get_push, if_pos rfl]; simp [flatQ]⟩⟩
  · have hL := flatQ_len ps
    have hLL : (flatQ ps ++ Z).length = ps.length * 3 + Z.length := by simp [hL]
    have e1 : (flatQ ps ++ Z).take (ps.length * 3) = flatQ ps := List.take_left' hL
    have e3 : (ps.length + 1) * 40 ≤ 17592186044416 := by omega
    have e4 : ps.length + 1 ≤ 17592186044416 := by omega
    have hn : (G.set w .dead).n = G.n := rfl
    by_cases hr : (ps.length + 1) * 3 ≤ ps.length * 3 + Z.length
    · have st := store_el (o := ps.length * 3) (vs := [.int .i64 p.f, .int .i64 p.t, .sl p.b 0 2 none]) hw (by rw [hLL]; simp; omega) (by simp [AVal.isCell])
      refine ⟨G.set w (.cells (placeA (flatQ ps ++ Z) (ps.length * 3) [.int .i64 p.f, .int .i64 p.t, .sl p.b 0 2 none]) 39 3 .elastic), w, ?_, Nat.le_refl _, fun z hz hne => by rw [AHeap.get_set, if_neg (fun e => hne ps.length (by rw [e]))], .inr ⟨w, Z.drop 3, by simp, lw, ?_⟩⟩
      · simp only [appendA, lenA, srcCells, hs, hw, roomA, Option.bind_some, hLL]
        simp [AVal.isCell, hr, st]
      · rw [AHeap.get_set, if_pos rfl]
        have e5 : (flatQ ps ++ Z).drop (ps.length * 3 + 3) = Z.drop 3 := by rw [← hL, List.drop_append]; simp
        simp only [placeA, e1, List.length_cons, List.length_nil, flatQ_app, flatQ]
        rw [show ps.length * 3 + (0 + 1 + 1 + 1) = ps.length * 3 + 3 by omega, e5]
    · refine ⟨(G.set w .dead).push (.cells (flatQ ps ++ [.int .i64 p.f, .int .i64 p.t, .sl p.b 0 2 none]) 39 3 .elastic), G.n, ?_, by simp, fun z hz hne => by rw [AHeap.get_push, if_neg (by rw [hn]; omega), AHeap.get_set, if_neg (fun e => hne ps.length (by rw [e]))], .inr ⟨G.n, [], by simp, by simp, ?_⟩⟩
      · simp only [appendA, lenA, srcCells, hs, hw, roomA, Option.bind_some, hLL]
        have e6 : ps.length * 3 ≤ ps.length * 3 + Z.length := by omega
        simp [AVal.isCell, hr, e1, e3, e4, e6]
      · show AHeap.get _ (G.set w .dead).n = _
        rw [AHeap.get_push, if_pos rfl, flatQ_app]; simp [flatQ]
theorem sendq01 {H : AHeap} {q b i : Nat} {u0 u1 u2 u3 u4 u5 u6 u7 u8 : Bool} {way : AVal} {ps : List Pq} {lost : Int} (lq : q < H.n) (hq : H.get q = .cells (nbq u0 u1 u2 u3 u4 u5 u6 u7 u8 way lost) 56 12 .fixed) (hw : WayQ H way ps) (hN : ps.length ≤ 200) (hb : H.get b = .cells [.int .u8 i, .int .u8 0] 5 1 .fixed) (lb : b < H.n) (hl : 0 ≤ lost ∧ lost ≤ 10000) :
    ∃ H' way' lost' ps', denF Ω0 none2 c13 [.ptr q 0, .int .i64 0, .int .i64 1, .sl b 0 2 (some 2)] H = some (.int .i64 0, H') ∧ FrQ H H' q ∧ H'.get q = .cells (nbq u0 u1 u2 u3 u4 u5 u6 u7 u8 way' lost') 56 12 .fixed ∧ WayQ H' way' ps' ∧ ((ps' = ps ∧ lost' = lost + 1) ∨ ∃ b', ps' = ps ++ [⟨0, 1, i, b'⟩] ∧ lost' = lost ∧ PqB H' ⟨0, 1, i, b'⟩) := by
  have n26 := noneq hq
  have hlen := hw.len
  have hbeq := hw.beq
  have lk : ∀ G, denF none2 none2 c27 [.int .i64 0, .int .i64 1] G = some (.bool true, G) := fun G => by rw [linkq]; simp [linkL]
  have cq : ¬ (4096 : Int) ≤ (ps.length : Int) := by omega
  have hw1 : IntKind.i64.wrap (lost + 1) = lost + 1 := by rw [IntKind.wrap_i64]; omega
  cases hc : u1 with
  | true =>
    subst hc
    refine ⟨H.set q (.cells (nbq u0 true u2 u3 u4 u5 u6 u7 u8 way (lost + 1)) 56 12 .fixed), way, lost + 1, ps, ?_, ⟨Nat.le_refl _, fun z _ h _ => by rw [AHeap.get_set, if_neg h]⟩, by rw [AHeap.get_set, if_pos rfl], ?_, .inl ⟨rfl, rfl⟩⟩
    · unfold nbq at hq ⊢
      unfold c13
      simp (maxSteps := 10000000) +contextual [go_sem, hq, lq, hlen, hw1, o0_26, o0_27, o0_28, n26, lk]
    · rcases hw with h | ⟨w, Z, h1, h2, h3⟩
      · exact .inl h
      · exact .inr ⟨w, Z, h1, h2, by rw [AHeap.get_set, if_neg (ne_get h3 hq (by simp))]; exact h3⟩
  | false =>
    subst hc
    obtain ⟨H1, e1, n1, z1, g1⟩ := copied2 (f := 0) (t := 1) (c := some 2) hb lb rfl rfl
    have hway : WayQ (H1.push (.cells [.int .i64 0, .int .i64 1, .sl (H.n + 3) 0 2 none] 39 3 .fixed)) way ps := by
      rcases hw with h | ⟨w, Z, h1, h2, h3⟩
      · exact .inl h
      · exact .inr ⟨w, Z, h1, by simp; omega, by rw [AHeap.get_push, if_neg (by omega), z1 w h2]; exact h3⟩
    obtain ⟨G', w', e2, n2, g2, w2⟩ := wayq_app (s := H.n + 4) (p := ⟨0, 1, i, H.n + 3⟩) hway (by rw [AHeap.get_push, if_pos n1.symm]) hN
    simp only [AHeap.n_push, n1] at n2 g2
    have fr : ∀ z, z < H.n → (∀ m, way ≠ .sl z 0 m none) → G'.get z = H.get z := fun z hz h => by rw [g2 z (by omega) h, AHeap.get_push, if_neg (by omega)]; exact z1 z hz
    have gq : G'.get q = .cells (nbq u0 false u2 u3 u4 u5 u6 u7 u8 way lost) 56 12 .fixed := (fr q lq (hw.ne hq (by simp))).trans hq
    have gb : G'.get (H.n + 3) = .cells [.int .u8 i, .int .u8 0] 5 1 .elastic := by
      rw [g2 _ (by omega) (fun m e => by
        rcases hw with ⟨_, rfl⟩ | ⟨w, _, rfl, lw, _⟩
        · simp at e
        · simp only [AVal.sl.injEq] at e; omega), AHeap.get_push, if_neg (by omega)]; exact g1
    refine ⟨G'.set q (.cells (nbq u0 false u2 u3 u4 u5 u6 u7 u8 (.sl w' 0 (ps.length + 1) none) lost) 56 12 .fixed), .sl w' 0 (ps.length + 1) none, lost, ps ++ [⟨0, 1, i, H.n + 3⟩], ?_, ⟨by simp; omega, fun z hz h h2 => by rw [AHeap.get_set, if_neg h]; exact fr z hz (hw.ne rfl h2)⟩, by rw [AHeap.get_set, if_pos rfl], ?_, .inr ⟨H.n + 3, rfl, rfl, show H.n + 3 < G'.n by omega, ?_⟩⟩
    rotate_left
    · rcases w2 with ⟨h, _⟩ | ⟨w, Z, a1, a2, a3⟩
      · simp at h
      · exact .inr ⟨w, Z, a1, by simpa using a2, by rw [AHeap.get_set, if_neg (ne_get a3 gq (by simp))]; exact a3⟩
    · show AHeap.get _ (H.n + 3) = _
      rw [AHeap.get_set, if_neg (by omega)]; exact gb
    have lq1 : q < H1.n := by omega
    have lq2 : q < G'.n := by omega
    have gq1 : H1.get q = .cells (nbq u0 false u2 u3 u4 u5 u6 u7 u8 way lost) 56 12 .fixed := (z1 q lq).trans hq
    have c2 : ¬ q = H1.n := by omega
    unfold nbq at hq gq gq1 ⊢
    unfold c13
    simp (maxSteps := 10000000) +contextual [go_sem, hq, lq, hlen, cq, o0_26, o0_27, o0_28, n26, lk, e1, e2, gq, gq1, lq1, lq2, c2, n1, hbeq]
theorem cutq01 {H : AHeap} {q : Nat} {u0 u1 u2 u3 u4 u5 u6 u7 u8 is : Bool} {way : AVal} {lost : Int} (lq : q < H.n) (hq : H.get q = .cells (nbq u0 u1 u2 u3 u4 u5 u6 u7 u8 way lost) 56 12 .fixed) :
    denF Ω0 none2 c11 [.ptr q 0, .int .i64 0, .int .i64 1, .bool is] H = some (.int .i64 0, H.set q (.cells (nbq u0 is u2 u3 u4 u5 u6 u7 u8 way lost) 56 12 .fixed)) := by
  have n26 := noneq hq
  have lk : ∀ G, denF none2 none2 c27 [.int .i64 0, .int .i64 1] G = some (.bool true, G) := fun G => by rw [linkq]; simp [linkL]
  unfold nbq at hq ⊢
  unfold c11
  simp (maxSteps := 10000000) +contextual [go_sem, hq, lq, o0_26, o0_27, n26, lk]
theorem sendq02 {H : AHeap} {q b i : Nat} {u0 u1 u2 u3 u4 u5 u6 u7 u8 : Bool} {way : AVal} {ps : List Pq} {lost : Int} (lq : q < H.n) (hq : H.get q = .cells (nbq u0 u1 u2 u3 u4 u5 u6 u7 u8 way lost) 56 12 .fixed) (hw : WayQ H way ps) (hN : ps.length ≤ 200) (hb : H.get b = .cells [.int .u8 i, .int .u8 0] 5 1 .fixed) (lb : b < H.n) (hl : 0 ≤ lost ∧ lost ≤ 10000) :
    ∃ H' way' lost' ps', denF Ω0 none2 c13 [.ptr q 0, .int .i64 0, .int .i64 2, .sl b 0 2 (some 2)] H = some (.int .i64 0, H') ∧ FrQ H H' q ∧ H'.get q = .cells (nbq u0 u1 u2 u3 u4 u5 u6 u7 u8 way' lost') 56 12 .fixed ∧ WayQ H' way' ps' ∧ ((ps' = ps ∧ lost' = lost + 1) ∨ ∃ b', ps' = ps ++ [⟨0, 2, i, b'⟩] ∧ lost' = lost ∧ PqB H' ⟨0, 2, i, b'⟩) := by
  have n26 := noneq hq
  have hlen := hw.len
  have hbeq := hw.beq
  have lk : ∀ G, denF none2 none2 c27 [.int .i64 0, .int .i64 2] G = some (.bool true, G) := fun G => by rw [linkq]; simp [linkL]
  have cq : ¬ (4096 : Int) ≤ (ps.length : Int) := by omega
  have hw1 : IntKind.i64.wrap (lost + 1) = lost + 1 := by rw [IntKind.wrap_i64]; omega
  cases hc : u2 with
  | true =>
    subst hc
    refine ⟨H.set q (.cells (nbq u0 u1 true u3 u4 u5 u6 u7 u8 way (lost + 1)) 56 12 .fixed), way, lost + 1, ps, ?_, ⟨Nat.le_refl _, fun z _ h _ => by rw [AHeap.get_set, if_neg h]⟩, by rw [AHeap.get_set, if_pos rfl], ?_, .inl ⟨rfl, rfl⟩⟩
    · unfold nbq at hq ⊢
      unfold c13
      simp (maxSteps := 10000000) +contextual [go_sem, hq, lq, hlen, hw1, o0_26, o0_27, o0_28, n26, lk]
    · rcases hw with h | ⟨w, Z, h1, h2, h3⟩
      · exact .inl h
      · exact .inr ⟨w, Z, h1, h2, by rw [AHeap.get_set, if_neg (ne_get h3 hq (by simp))]; exact h3⟩
  | false =>
    subst hc
    obtain ⟨H1, e1, n1, z1, g1⟩ := copied2 (f := 0) (t := 2) (c := some 2) hb lb rfl rfl
    have hway : WayQ (H1.push (.cells [.int .i64 0, .int .i64 2, .sl (H.n + 3) 0 2 none] 39 3 .fixed)) way ps := by
      rcases hw with h | ⟨w, Z, h1, h2, h3⟩
      · exact .inl h
      · exact .inr ⟨w, Z, h1, by simp; omega, by rw [AHeap.get_push, if_neg (by omega), z1 w h2]; exact h3⟩
    obtain ⟨G', w', e2, n2, g2, w2⟩ := wayq_app (s := H.n + 4) (p := ⟨0, 2, i, H.n + 3⟩) hway (by rw [AHeap.get_push, if_pos n1.symm]) hN
    simp only [AHeap.n_push, n1] at n2 g2
    have fr : ∀ z, z < H.n → (∀ m, way ≠ .sl z 0 m none) → G'.get z = H.get z := fun z hz h => by rw [g2 z (by omega) h, AHeap.get_push, if_neg (by omega)]; exact z1 z hz
    have gq : G'.get q = .cells (nbq u0 u1 false u3 u4 u5 u6 u7 u8 way lost) 56 12 .fixed := (fr q lq (hw.ne hq (by simp))).trans hq
    have gb : G'.get (H.n + 3) = .cells [.int .u8 i, .int .u8 0] 5 1 .elastic := by
      rw [g2 _ (by omega) (fun m e => by
        rcases hw with ⟨_, rfl⟩ | ⟨w, _, rfl, lw, _⟩
        · simp at e
        · simp only [AVal.sl.injEq] at e; omega), AHeap.get_push, if_neg (by omega)]; exact g1
    refine ⟨G'.set q (.cells (nbq u0 u1 false u3 u4 u5 u6 u7 u8 (.sl w' 0 (ps.length + 1) none) lost) 56 12 .fixed), .sl w' 0 (ps.length + 1) none, lost, ps ++ [⟨0, 2, i, H.n + 3⟩], ?_, ⟨by simp; omega, fun z hz h h2 => by rw [AHeap.get_set, if_neg h]; exact fr z hz (hw.ne rfl h2)⟩, by rw [AHeap.get_set, if_pos rfl], ?_, .inr ⟨H.n + 3, rfl, rfl, show H.n + 3 < G'.n by omega, ?_⟩⟩
    rotate_left
    · rcases w2 with ⟨h, _⟩ | ⟨w, Z, a1, a2, a3⟩
      · simp at h
      · exact .inr ⟨w, Z, a1, by simpa using a2, by rw [AHeap.get_set, if_neg (ne_get a3 gq (by simp))]; exact a3⟩
    · show AHeap.get _ (H.n + 3) = _
      rw [AHeap.get_set, if_neg (by omega)]; exact gb
    have lq1 : q < H1.n := by omega
    have lq2 : q < G'.n := by omega
    have gq1 : H1.get q = .cells (nbq u0 u1 false u3 u4 u5 u6 u7 u8 way lost) 56 12 .fixed := (z1 q lq).trans hq
    have c2 : ¬ q = H1.n := by omega
    unfold nbq at hq gq gq1 ⊢
    unfold c13
    simp (maxSteps := 10000000) +contextual [go_sem, hq, lq, hlen, cq, o0_26, o0_27, o0_28, n26, lk, e1, e2, gq, gq1, lq1, lq2, c2, n1, hbeq]
theorem cutq02 {H : AHeap} {q : Nat} {u0 u1 u2 u3 u4 u5 u6 u7 u8 is : Bool} {way : AVal} {lost : Int} (lq : q < H.n) (hq : H.get q = .cells (nbq u0 u1 u2 u3 u4 u5 u6 u7 u8 way lost) 56 12 .fixed) :
    denF Ω0 none2 c11 [.ptr q 0, .int .i64 0, .int .i64 2, .bool is] H = some (.int .i64 0, H.set q (.cells (nbq u0 u1 is u3 u4 u5 u6 u7 u8 way lost) 56 12 .fixed)) := by
  have n26 := noneq hq
  have lk : ∀ G, denF none2 none2 c27 [.int .i64 0, .int .i64 2] G = some (.bool true, G) := fun G => by rw [linkq]; simp [linkL]
  unfold nbq at hq ⊢
  unfold c11
  simp (maxSteps := 10000000) +contextual [go_sem, hq, lq, o0_26, o0_27, n26, lk]
theorem sendq10 {H : AHeap} {q b i : Nat} {u0 u1 u2 u3 u4 u5 u6 u7 u8 : Bool} {way : AVal} {ps : List Pq} {lost : Int} (lq : q < H.n) (hq : H.get q = .cells (nbq u0 u1 u2 u3 u4 u5 u6 u7 u8 way lost) 56 12 .fixed) (hw : WayQ H way ps) (hN : ps.length ≤ 200) (hb : H.get b = .cells [.int .u8 i, .int .u8 1] 5 1 .fixed) (lb : b < H.n) (hl : 0 ≤ lost ∧ lost ≤ 10000) :
    ∃ H' way' lost' ps', denF Ω0 none2 c13 [.ptr q 0, .int .i64 1, .int .i64 0, .sl b 0 2 (some 2)] H = some (.int .i64 0, H') ∧ FrQ H H' q ∧ H'.get q = .cells (nbq u0 u1 u2 u3 u4 u5 u6 u7 u8 way' lost') 56 12 .fixed ∧ WayQ H' way' ps' ∧ ((ps' = ps ∧ lost' = lost + 1) ∨ ∃ b', ps' = ps ++ [⟨1, 0, i, b'⟩] ∧ lost' = lost ∧ PqB H' ⟨1, 0, i, b'⟩) := by
  have n26 := noneq hq
  have hlen := hw.len
  have hbeq := hw.beq
  have lk : ∀ G, denF none2 none2 c27 [.int .i64 1, .int .i64 0] G = some (.bool true, G) := fun G => by rw [linkq]; simp [linkL]
  have cq : ¬ (4096 : Int) ≤ (ps.length : Int) := by omega
  have hw1 : IntKind.i64.wrap (lost + 1) = lost + 1 := by rw [IntKind.wrap_i64]; omega
  cases hc : u3 with
  | true =>
    subst hc
    refine ⟨H.set q (.cells (nbq u0 u1 u2 true u4 u5 u6 u7 u8 way (lost + 1)) 56 12 .fixed), way, lost + 1, ps, ?_, ⟨Nat.le_refl _, fun z _ h _ => by rw [AHeap.get_set, if_neg h]⟩, by rw [AHeap.get_set, if_pos rfl], ?_, .inl ⟨rfl, rfl⟩⟩
    · unfold nbq at hq ⊢
      unfold c13
      simp (maxSteps := 10000000) +contextual [go_sem, hq, lq, hlen, hw1, o0_26, o0_27, o0_28, n26, lk]
    · rcases hw with h | ⟨w, Z, h1, h2, h3⟩
      · exact .inl h
      · exact .inr ⟨w, Z, h1, h2, by rw [AHeap.get_set, if_neg (ne_get h3 hq (by simp))]; exact h3⟩
  | false =>
    subst hc
    obtain ⟨H1, e1, n1, z1, g1⟩ := copied2 (f := 1) (t := 0) (c := some 2) hb lb rfl rfl
    have hway : WayQ (H1.push (.cells [.int .i64 1, .int .i64 0, .sl (H.n + 3) 0 2 none] 39 3 .fixed)) way ps := by
      rcases hw with h | ⟨w, Z, h1, h2, h3⟩
      · exact .inl h
      · exact .inr ⟨w, Z, h1, by simp; omega, by rw [AHeap.get_push, if_neg (by omega), z1 w h2]; exact h3⟩
    obtain ⟨G', w', e2, n2, g2, w2⟩ := wayq_app (s := H.n + 4) (p := ⟨1, 0, i, H.n + 3⟩) hway (by rw [AHeap.get_push, if_pos n1.symm]) hN
    simp only [AHeap.n_push, n1] at n2 g2
    have fr : ∀ z, z < H.n → (∀ m, way ≠ .sl z 0 m none) → G'.get z = H.get z := fun z hz h => by rw [g2 z (by omega) h, AHeap.get_push, if_neg (by omega)]; exact z1 z hz
    have gq : G'.get q = .cells (nbq u0 u1 u2 false u4 u5 u6 u7 u8 way lost) 56 12 .fixed := (fr q lq (hw.ne hq (by simp))).trans hq
    have gb : G'.get (H.n + 3) = .cells [.int .u8 i, .int .u8 1] 5 1 .elastic := by
      rw [g2 _ (by omega) (fun m e => by
        rcases hw with ⟨_, rfl⟩ | ⟨w, _, rfl, lw, _⟩
        · simp at e
        · simp only [AVal.sl.injEq] at e; omega), AHeap.get_push, if_neg (by omega)]; exact g1
    refine ⟨G'.set q (.cells (nbq u0 u1 u2 false u4 u5 u6 u7 u8 (.sl w' 0 (ps.length + 1) none) lost) 56 12 .fixed), .sl w' 0 (ps.length + 1) none, lost, ps ++ [⟨1, 0, i, H.n + 3⟩], ?_, ⟨by simp; omega, fun z hz h h2 => by rw [AHeap.get_set, if_neg h]; exact fr z hz (hw.ne rfl h2)⟩, by rw [AHeap.get_set, if_pos rfl], ?_, .inr ⟨H.n + 3, rfl, rfl, show H.n + 3 < G'.n by omega, ?_⟩⟩
    rotate_left
    · rcases w2 with ⟨h, _⟩ | ⟨w, Z, a1, a2, a3⟩
      · simp at h
      · exact .inr ⟨w, Z, a1, by simpa using a2, by rw [AHeap.get_set, if_neg (ne_get a3 gq (by simp))]; exact a3⟩
    · show AHeap.get _ (H.n + 3) = _
      rw [AHeap.get_set, if_neg (by omega)]; exact gb
    have lq1 : q < H1.n := by omega
    have lq2 : q < G'.n := by omega
    have gq1 : H1.get q = .cells (nbq u0 u1 u2 false u4 u5 u6 u7 u8 way lost) 56 12 .fixed := (z1 q lq).trans hq
    have c2 : ¬ q = H1.n := by omega
    unfold nbq at hq gq gq1 ⊢
    unfold c13
    simp (maxSteps := 10000000) +contextual [go_sem, hq, lq, hlen, cq, o0_26, o0_27, o0_28, n26, lk, e1, e2, gq, gq1, lq1, lq2, c2, n1, hbeq]
theorem cutq10 {H : AHeap} {q : Nat} {u0 u1 u2 u3 u4 u5 u6 u7 u8 is : Bool} {way : AVal} {lost : Int} (lq : q < H.n) (hq : H.get q = .cells (nbq u0 u1 u2 u3 u4 u5 u6 u7 u8 way lost) 56 12 .fixed) :
    denF Ω0 none2 c11 [.ptr q 0, .int .i64 1, .int .i64 0, .bool is] H = some (.int .i64 0, H.set q (.cells (nbq u0 u1 u2 is u4 u5 u6 u7 u8 way lost) 56 12 .fixed)) := by
  have n26 := noneq hq
  have lk : ∀ G, denF none2 none2 c27 [.int .i64 1, .int .i64 0] G = some (.bool true, G) := fun G => by rw [linkq]; simp [linkL]
  unfold nbq at hq ⊢
  unfold c11
  simp (maxSteps := 10000000) +contextual [go_sem, hq, lq, o0_26, o0_27, n26, lk]
theorem sendq12 {H : AHeap} {q b i : Nat} {u0 u1 u2 u3 u4 u5 u6 u7 u8 : Bool} {way : AVal} {ps : List Pq} {lost : Int} (lq : q < H.n) (hq : H.get q = .cells (nbq u0 u1 u2 u3 u4 u5 u6 u7 u8 way lost) 56 12 .fixed) (hw : WayQ H way ps) (hN : ps.length ≤ 200) (hb : H.get b = .cells [.int .u8 i, .int .u8 1] 5 1 .fixed) (lb : b < H.n) (hl : 0 ≤ lost ∧ lost ≤ 10000) :
    ∃ H' way' lost' ps', denF Ω0 none2 c13 [.ptr q 0, .int .i64 1, .int .i64 2, .sl b 0 2 (some 2)] H = some (.int .i64 0, H') ∧ FrQ H H' q ∧ H'.get q = .cells (nbq u0 u1 u2 u3 u4 u5 u6 u7 u8 way' lost') 56 12 .fixed ∧ WayQ H' way' ps' ∧ ((ps' = ps ∧ lost' = lost + 1) ∨ ∃ b', ps' = ps ++ [⟨1, 2, i, b'⟩] ∧ lost' = lost ∧ PqB H' ⟨1, 2, i, b'⟩) := by
  have n26 := noneq hq
  have hlen := hw.len
  have hbeq := hw.beq
  have lk : ∀ G, denF none2 none2 c27 [.int .i64 1, .int .i64 2] G = some (.bool true, G) := fun G => by rw [linkq]; simp [linkL]
  have cq : ¬ (4096 : Int) ≤ (ps.length : Int) := by omega
  have hw1 : IntKind.i64.wrap (lost + 1) = lost + 1 := by rw [IntKind.wrap_i64]; omega
  cases hc : u5 with
  | true =>
    subst hc
    refine ⟨H.set q (.cells (nbq u0 u1 u2 u3 u4 true u6 u7 u8 way (lost + 1)) 56 12 .fixed), way, lost + 1, ps, ?_, ⟨Nat.le_refl _, fun z _ h _ => by rw [AHeap.get_set, if_neg h]⟩, by rw [AHeap.get_set, if_pos rfl], ?_, .inl ⟨rfl, rfl⟩⟩
    · unfold nbq at hq ⊢
      unfold c13
      simp (maxSteps := 10000000) +contextual [go_sem, hq, lq, hlen, hw1, o0_26, o0_27, o0_28, n26, lk]
    · rcases hw with h | ⟨w, Z, h1, h2, h3⟩
      · exact .inl h
      · exact .inr ⟨w, Z, h1, h2, by rw [AHeap.get_set, if_neg (ne_get h3 hq (by simp))]; exact h3⟩
  | false =>
    subst hc
    obtain ⟨H1, e1, n1, z1, g1⟩ := copied2 (f := 1) (t := 2) (c := some 2) hb lb rfl rfl
    have hway : WayQ (H1.push (.cells [.int .i64 1, .int .i64 2, .sl (H.n + 3) 0 2 none] 39 3 .fixed)) way ps := by
      rcases hw with h | ⟨w, Z, h1, h2, h3⟩
      · exact .inl h
      · exact .inr ⟨w, Z, h1, by simp; omega, by rw [AHeap.get_push, if_neg (by omega), z1 w h2]; exact h3⟩
    obtain ⟨G', w', e2, n2, g2, w2⟩ := wayq_app (s := H.n + 4) (p := ⟨1, 2, i, H.n + 3⟩) hway (by rw [AHeap.get_push, if_pos n1.symm]) hN
    simp only [AHeap.n_push, n1] at n2 g2
    have fr : ∀ z, z < H.n → (∀ m, way ≠ .sl z 0 m none) → G'.get z = H.get z := fun z hz h => by rw [g2 z (by omega) h, AHeap.get_push, if_neg (by omega)]; exact z1 z hz
    have gq : G'.get q = .cells (nbq u0 u1 u2 u3 u4 false u6 u7 u8 way lost) 56 12 .fixed := (fr q lq (hw.ne hq (by simp))).trans hq
    have gb : G'.get (H.n + 3) = .cells [.int .u8 i, .int .u8 1] 5 1 .elastic := by
      rw [g2 _ (by omega) (fun m e => by
        rcases hw with ⟨_, rfl⟩ | ⟨w, _, rfl, lw, _⟩
        · simp at e
        · simp only [AVal.sl.injEq] at e; omega), AHeap.get_push, if_neg (by omega)]; exact g1
    refine ⟨G'.set q (.cells (nbq u0 u1 u2 u3 u4 false u6 u7 u8 (.sl w' 0 (ps.length + 1) none) lost) 56 12 .fixed), .sl w' 0 (ps.length + 1) none, lost, ps ++ [⟨1, 2, i, H.n + 3⟩], ?_, ⟨by simp; omega, fun z hz h h2 => by rw [AHeap.get_set, if_neg h]; exact fr z hz (hw.ne rfl h2)⟩, by rw [AHeap.get_set, if_pos rfl], ?_, .inr ⟨H.n + 3, rfl, rfl, show H.n + 3 < G'.n by omega, ?_⟩⟩
    rotate_left
    · rcases w2 with ⟨h, _⟩ | ⟨w, Z, a1, a2, a3⟩
      · simp at h
      · exact .inr ⟨w, Z, a1, by simpa using a2, by rw [AHeap.get_set, if_neg (ne_get a3 gq (by simp))]; exact a3⟩
    · show AHeap.get _ (H.n + 3) = _
      rw [AHeap.get_set, if_neg (by omega)]; exact gb
    have lq1 : q < H1.n := by omega
    have lq2 : q < G'.n := by omega
    have gq1 : H1.get q = .cells (nbq u0 u1 u2 u3 u4 false u6 u7 u8 way lost) 56 12 .fixed := (z1 q lq).trans hq
    have c2 : ¬ q = H1.n := by omega
    unfold nbq at hq gq gq1 ⊢
    unfold c13
    simp (maxSteps := 10000000) +contextual [go_sem, hq, lq, hlen, cq, o0_26, o0_27, o0_28, n26, lk, e1, e2, gq, gq1, lq1, lq2, c2, n1, hbeq]
theorem cutq12 {H : AHeap} {q : Nat} {u0 u1 u2 u3 u4 u5 u6 u7 u8 is : Bool} {way : AVal} {lost : Int} (lq : q < H.n) (hq : H.get q = .cells (nbq u0 u1 u2 u3 u4 u5 u6 u7 u8 way lost) 56 12 .fixed) :
    denF Ω0 none2 c11 [.ptr q 0, .int .i64 1, .int .i64 2, .bool is] H = some (.int .i64 0, H.set q (.cells (nbq u0 u1 u2 u3 u4 is u6 u7 u8 way lost) 56 12 .fixed)) := by
  have n26 := noneq hq
  have lk : ∀ G, denF none2 none2 c27 [.int .i64 1, .int .i64 2] G = some (.bool true, G) := fun G => by rw [linkq]; simp [linkL]
  unfold nbq at hq ⊢
  unfold c11
  simp (maxSteps := 10000000) +contextual [go_sem, hq, lq, o0_26, o0_27, n26, lk]
theorem sendq20 {H : AHeap} {q b i : Nat} {u0 u1 u2 u3 u4 u5 u6 u7 u8 : Bool} {way : AVal} {ps : List Pq} {lost : Int} (lq : q < H.n) (hq : H.get q = .cells (nbq u0 u1 u2 u3 u4 u5 u6 u7 u8 way lost) 56 12 .fixed) (hw : WayQ H way ps) (hN : ps.length ≤ 200) (hb : H.get b = .cells [.int .u8 i, .int .u8 2] 5 1 .fixed) (lb : b < H.n) (hl : 0 ≤ lost ∧ lost ≤ 10000) :
    ∃ H' way' lost' ps', denF Ω0 none2 c13 [.ptr q 0, .int .i64 2, .int .i64 0, .sl b 0 2 (some 2)] H = some (.int .i64 0, H') ∧ FrQ H H' q ∧ H'.get q = .cells (nbq u0 u1 u2 u3 u4 u5 u6 u7 u8 way' lost') 56 12 .fixed ∧ WayQ H' way' ps' ∧ ((ps' = ps ∧ lost' = lost + 1) ∨ ∃ b', ps' = ps ++ [⟨2, 0, i, b'⟩] ∧ lost' = lost ∧ PqB H' ⟨2, 0, i, b'⟩) := by
  have n26 := noneq hq
  have hlen := hw.len
  have hbeq := hw.beq
  have lk : ∀ G, denF none2 none2 c27 [.int .i64 2, .int .i64 0] G = some (.bool true, G) := fun G => by rw [linkq]; simp [linkL]
  have cq : ¬ (4096 : Int) ≤ (ps.length : Int) := by omega
  have hw1 : IntKind.i64.wrap (lost + 1) = lost + 1 := by rw [IntKind.wrap_i64]; omega
  cases hc : u6 with
  | true =>
    subst hc
    refine ⟨H.set q (.cells (nbq u0 u1 u2 u3 u4 u5 true u7 u8 way (lost + 1)) 56 12 .fixed), way, lost + 1, ps, ?_, ⟨Nat.le_refl _, fun z _ h _ => by rw [AHeap.get_set, if_neg h]⟩, by rw [AHeap.get_set, if_pos rfl], ?_, .inl ⟨rfl, rfl⟩⟩
    · unfold nbq at hq ⊢
      unfold c13
      simp (maxSteps := 10000000) +contextual [go_sem, hq, lq, hlen, hw1, o0_26, o0_27, o0_28, n26, lk]
    · rcases hw with h | ⟨w, Z, h1, h2, h3⟩
      · exact .inl h
      · exact .inr ⟨w, Z, h1, h2, by rw [AHeap.get_set, if_neg (ne_get h3 hq (by simp))]; exact h3⟩
  | false =>
    subst hc
    obtain ⟨H1, e1, n1, z1, g1⟩ := copied2 (f := 2) (t := 0) (c := some 2) hb lb rfl rfl
    have hway : WayQ (H1.push (.cells [.int .i64 2, .int .i64 0, .sl (H.n + 3) 0 2 none] 39 3 .fixed)) way ps := by
      rcases hw with h | ⟨w, Z, h1, h2, h3⟩
      · exact .inl h
      · exact .inr ⟨w, Z, h1, by simp; omega, by rw [AHeap.get_push, if_neg (by omega), z1 w h2]; exact h3⟩
    obtain ⟨G', w', e2, n2, g2, w2⟩ := wayq_app (s := H.n + 4) (p := ⟨2, 0, i, H.n + 3⟩) hway (by rw [AHeap.get_push, if_pos n1.symm]) hN
    simp only [AHeap.n_push, n1] at n2 g2
    have fr : ∀ z, z < H.n → (∀ m, way ≠ .sl z 0 m none) → G'.get z = H.get z := fun z hz h => by rw [g2 z (by omega) h, AHeap.get_push, if_neg (by omega)]; exact z1 z hz
    have gq : G'.get q = .cells (nbq u0 u1 u2 u3 u4 u5 false u7 u8 way lost) 56 12 .fixed := (fr q lq (hw.ne hq (by simp))).trans hq
    have gb : G'.get (H.n + 3) = .cells [.int .u8 i, .int .u8 2] 5 1 .elastic := by
      rw [g2 _ (by omega) (fun m e => by
        rcases hw with ⟨_, rfl⟩ | ⟨w, _, rfl, lw, _⟩
        · simp at e
        · simp only [AVal.sl.injEq] at e; omega), AHeap.get_push, if_neg (by omega)]; exact g1
    refine ⟨G'.set q (.cells (nbq u0 u1 u2 u3 u4 u5 false u7 u8 (.sl w' 0 (ps.length + 1) none) lost) 56 12 .fixed), .sl w' 0 (ps.length + 1) none, lost, ps ++ [⟨2, 0, i, H.n + 3⟩], ?_, ⟨by simp; omega, fun z hz h h2 => by rw [AHeap.get_set, if_neg h]; exact fr z hz (hw.ne rfl h2)⟩, by rw [AHeap.get_set, if_pos rfl], ?_, .inr ⟨H.n + 3, rfl, rfl, show H.n + 3 < G'.n by omega, ?_⟩⟩
    rotate_left
    · rcases w2 with ⟨h, _⟩ | ⟨w, Z, a1, a2, a3⟩
      · simp at h
      · exact .inr ⟨w, Z, a1, by simpa using a2, by rw [AHeap.get_set, if_neg (ne_get a3 gq (by simp))]; exact a3⟩
    · show AHeap.get _ (H.n + 3) = _
      rw [AHeap.get_set, if_neg (by omega)]; exact gb
    have lq1 : q < H1.n := by omega
    have lq2 : q < G'.n := by omega
    have gq1 : H1.get q = .cells (nbq u0 u1 u2 u3 u4 u5 false u7 u8 way lost) 56 12 .fixed := (z1 q lq).trans hq
    have c2 : ¬ q = H1.n := by omega
    unfold nbq at hq gq gq1 ⊢
    unfold c13
    simp (maxSteps := 10000000) +contextual [go_sem, hq, lq, hlen, cq, o0_26, o0_27, o0_28, n26, lk, e1, e2, gq, gq1, lq1, lq2, c2, n1, hbeq]
theorem cutq20 {H : AHeap} {q : Nat} {u0 u1 u2 u3 u4 u5 u6 u7 u8 is : Bool} {way : AVal} {lost : Int} (lq : q < H.n) (hq : H.get q = .cells (nbq u0 u1 u2 u3 u4 u5 u6 u7 u8 way lost) 56 12 .fixed) :
    denF Ω0 none2 c11 [.ptr q 0, .int .i64 2, .int .i64 0, .bool is] H = some (.int .i64 0, H.set q (.cells (nbq u0 u1 u2 u3 u4 u5 is u7 u8 way lost) 56 12 .fixed)) := by
  have n26 := noneq hq
  have lk : ∀ G, denF none2 none2 c27 [.int .i64 2, .int .i64 0] G = some (.bool true, G) := fun G => by rw [linkq]; simp [linkL]
  unfold nbq at hq ⊢
  unfold c11
  simp (maxSteps := 10000000) +contextual [go_sem, hq, lq, o0_26, o0_27, n26, lk]
theorem sendq21 {H : AHeap} {q b i : Nat} {u0 u1 u2 u3 u4 u5 u6 u7 u8 : Bool} {way : AVal} {ps : List Pq} {lost : Int} (lq : q < H.n) (hq : H.get q = .cells (nbq u0 u1 u2 u3 u4 u5 u6 u7 u8 way lost) 56 12 .fixed) (hw : WayQ H way ps) (hN : ps.length ≤ 200) (hb : H.get b = .cells [.int .u8 i, .int .u8 2] 5 1 .fixed) (lb : b < H.n) (hl : 0 ≤ lost ∧ lost ≤ 10000) :
    ∃ H' way' lost' ps', denF Ω0 none2 c13 [.ptr q 0, .int .i64 2, .int .i64 1, .sl b 0 2 (some 2)] H = some (.int .i64 0, H') ∧ FrQ H H' q ∧ H'.get q = .cells (nbq u0 u1 u2 u3 u4 u5 u6 u7 u8 way' lost') 56 12 .fixed ∧ WayQ H' way' ps' ∧ ((ps' = ps ∧ lost' = lost + 1) ∨ ∃ b', ps' = ps ++ [⟨2, 1, i, b'⟩] ∧ lost' = lost ∧ PqB H' ⟨2, 1, i, b'⟩) := by
  have n26 := noneq hq
  have hlen := hw.len
  have hbeq := hw.beq
  have lk : ∀ G, denF none2 none2 c27 [.int .i64 2, .int .i64 1] G = some (.bool true, G) := fun G => by rw [linkq]; simp [linkL]
  have cq : ¬ (4096 : Int) ≤ (ps.length : Int) := by omega
  have hw1 : IntKind.i64.wrap (lost + 1) = lost + 1 := by rw [IntKind.wrap_i64]; omega
  cases hc : u7 with
  | true =>
    subst hc
    refine ⟨H.set q (.cells (nbq u0 u1 u2 u3 u4 u5 u6 true u8 way (lost + 1)) 56 12 .fixed), way, lost + 1, ps, ?_, ⟨Nat.le_refl _, fun z _ h _ => by rw [AHeap.get_set, if_neg h]⟩, by rw [AHeap.get_set, if_pos rfl], ?_, .inl ⟨rfl, rfl⟩⟩
    · unfold nbq at hq ⊢
      unfold c13
      simp (maxSteps := 10000000) +contextual [go_sem, hq, lq, hlen, hw1, o0_26, o0_27, o0_28, n26, lk]
    · rcases hw with h | ⟨w, Z, h1, h2, h3⟩
      · exact .inl h
      · exact .inr ⟨w, Z, h1, h2, by rw [AHeap.get_set, if_neg (ne_get h3 hq (by simp))]; exact h3⟩
  | false =>
    subst hc
    obtain ⟨H1, e1, n1, z1, g1⟩ := copied2 (f := 2) (t := 1) (c := some 2) hb lb rfl rfl
    have hway : WayQ (H1.push (.cells [.int .i64 2, .int .i64 1, .sl (H.n + 3) 0 2 none] 39 3 .fixed)) way ps := by
      rcases hw with h | ⟨w, Z, h1, h2, h3⟩
      · exact .inl h
      · exact .inr ⟨w, Z, h1, by simp; omega, by rw [AHeap.get_push, if_neg (by omega), z1 w h2]; exact h3⟩
    obtain ⟨G', w', e2, n2, g2, w2⟩ := wayq_app (s := H.n + 4) (p := ⟨2, 1, i, H.n + 3⟩) hway (by rw [AHeap.get_push, if_pos n1.symm]) hN
    simp only [AHeap.n_push, n1] at n2 g2
    have fr : ∀ z, z < H.n → (∀ m, way ≠ .sl z 0 m none) → G'.get z = H.get z := fun z hz h => by rw [g2 z (by omega) h, AHeap.get_push, if_neg (by omega)]; exact z1 z hz
    have gq : G'.get q = .cells (nbq u0 u1 u2 u3 u4 u5 u6 false u8 way lost) 56 12 .fixed := (fr q lq (hw.ne hq (by simp))).trans hq
    have gb : G'.get (H.n + 3) = .cells [.int .u8 i, .int .u8 2] 5 1 .elastic := by
      rw [g2 _ (by omega) (fun m e => by
        rcases hw with ⟨_, rfl⟩ | ⟨w, _, rfl, lw, _⟩
        · simp at e
        · simp only [AVal.sl.injEq] at e; omega), AHeap.get_push, if_neg (by omega)]; exact g1
    refine ⟨G'.set q (.cells (nbq u0 u1 u2 u3 u4 u5 u6 false u8 (.sl w' 0 (ps.length + 1) none) lost) 56 12 .fixed), .sl w' 0 (ps.length + 1) none, lost, ps ++ [⟨2, 1, i, H.n + 3⟩], ?_, ⟨by simp; omega, fun z hz h h2 => by rw [AHeap.get_set, if_neg h]; exact fr z hz (hw.ne rfl h2)⟩, by rw [AHeap.get_set, if_pos rfl], ?_, .inr ⟨H.n + 3, rfl, rfl, show H.n + 3 < G'.n by omega, ?_⟩⟩
    rotate_left
    · rcases w2 with ⟨h, _⟩ | ⟨w, Z, a1, a2, a3⟩
      · simp at h
      · exact .inr ⟨w, Z, a1, by simpa using a2, by rw [AHeap.get_set, if_neg (ne_get a3 gq (by simp))]; exact a3⟩
    · show AHeap.get _ (H.n + 3) = _
      rw [AHeap.get_set, if_neg (by omega)]; exact gb
    have lq1 : q < H1.n := by omega
    have lq2 : q < G'.n := by omega
    have gq1 : H1.get q = .cells (nbq u0 u1 u2 u3 u4 u5 u6 false u8 way lost) 56 12 .fixed := (z1 q lq).trans hq
    have c2 : ¬ q = H1.n := by omega
    unfold nbq at hq gq gq1 ⊢
    unfold c13
    simp (maxSteps := 10000000) +contextual [go_sem, hq, lq, hlen, cq, o0_26, o0_27, o0_28, n26, lk, e1, e2, gq, gq1, lq1, lq2, c2, n1, hbeq]
theorem cutq21 {H : AHeap} {q : Nat} {u0 u1 u2 u3 u4 u5 u6 u7 u8 is : Bool} {way : AVal} {lost : Int} (lq : q < H.n) (hq : H.get q = .cells (nbq u0 u1 u2 u3 u4 u5 u6 u7 u8 way lost) 56 12 .fixed) :
    denF Ω0 none2 c11 [.ptr q 0, .int .i64 2, .int .i64 1, .bool is] H = some (.int .i64 0, H.set q (.cells (nbq u0 u1 u2 u3 u4 u5 u6 is u8 way lost) 56 12 .fixed)) := by
  have n26 := noneq hq
  have lk : ∀ G, denF none2 none2 c27 [.int .i64 2, .int .i64 1] G = some (.bool true, G) := fun G => by rw [linkq]; simp [linkL]
  unfold nbq at hq ⊢
  unfold c11
  simp (maxSteps := 10000000) +contextual [go_sem, hq, lq, o0_26, o0_27, n26, lk]
theorem sendq_bad {H : AHeap} {q : Nat} {u0 u1 u2 u3 u4 u5 u6 u7 u8 : Bool} {way : AVal} {lost : Int} (lq : q < H.n) (hq : H.get q = .cells (nbq u0 u1 u2 u3 u4 u5 u6 u7 u8 way lost) 56 12 .fixed) {f t : Int} {b : Nat} (h : linkL f t = false) : denF Ω0 none2 c13 [.ptr q 0, .int .i64 f, .int .i64 t, .sl b 0 2 (some 2)] H = some (.int .i64 2, H) := by
  have n26 := noneq hq
  have lk := linkq (H := H) f t
  rw [h] at lk
  unfold nbq at hq
  unfold c13
  simp (maxSteps := 10000000) +contextual [go_sem, hq, lq, o0_26, o0_27, n26, lk]
theorem cutq_bad {H : AHeap} {q : Nat} {u0 u1 u2 u3 u4 u5 u6 u7 u8 : Bool} {way : AVal} {lost : Int} (lq : q < H.n) (hq : H.get q = .cells (nbq u0 u1 u2 u3 u4 u5 u6 u7 u8 way lost) 56 12 .fixed) {f t : Int} {is : Bool} (h : linkL f t = false) : denF Ω0 none2 c11 [.ptr q 0, .int .i64 f, .int .i64 t, .bool is] H = some (.int .i64 2, H) := by
  have n26 := noneq hq
  have lk := linkq (H := H) f t
  rw [h] at lk
  unfold nbq at hq
  unfold c11
  simp (maxSteps := 10000000) +contextual [go_sem, hq, lq, o0_26, o0_27, n26, lk]
theorem atq_ok {H : AHeap} {q : Nat} {u0 u1 u2 u3 u4 u5 u6 u7 u8 : Bool} {way : AVal} {lost : Int} (lq : q < H.n) (hq : H.get q = .cells (nbq u0 u1 u2 u3 u4 u5 u6 u7 u8 way lost) 56 12 .fixed) {N i : Nat} (hlen : lenK (some way) = some (.int .i64 N)) (hi : i < N) : denF Ω0 none2 c31 [.ptr q 0, .int .i64 i] H = some (.int .i64 0, H) := by
  have n26 := noneq hq
  have d1 : ¬ (N : Int) ≤ (i : Int) := by omega
  have d2 : ¬ N ≤ i := by omega
  have d3 : ¬ (i : Int) < 0 := by omega
  unfold nbq at hq
  unfold c31
  simp (maxSteps := 10000000) +contextual [go_sem, hq, lq, hlen, d1, d2, d3, o0_26, n26]
theorem atq_bad {H : AHeap} {q : Nat} {u0 u1 u2 u3 u4 u5 u6 u7 u8 : Bool} {way : AVal} {lost : Int} (lq : q < H.n) (hq : H.get q = .cells (nbq u0 u1 u2 u3 u4 u5 u6 u7 u8 way lost) 56 12 .fixed) {N : Nat} {i : Int} (hlen : lenK (some way) = some (.int .i64 N)) (hi : i < 0 ∨ (N : Int) ≤ i) : denF Ω0 none2 c31 [.ptr q 0, .int .i64 i] H = some (.int .i64 5, H) := by
  have n26 := noneq hq
  unfold nbq at hq
  unfold c31
  by_cases d3 : i < 0
  · simp (maxSteps := 10000000) +contextual [go_sem, hq, lq, hlen, d3, o0_26, n26]
  · have d1 := hi.resolve_left d3
    simp (maxSteps := 10000000) +contextual [go_sem, hq, lq, hlen, d1, d3, o0_26, n26]
theorem lookq_bad {H : AHeap} {q : Nat} {u0 u1 u2 u3 u4 u5 u6 u7 u8 : Bool} {way : AVal} {lost : Int} (lq : q < H.n) (hq : H.get q = .cells (nbq u0 u1 u2 u3 u4 u5 u6 u7 u8 way lost) 56 12 .fixed) {N : Nat} {i : Int} (hlen : lenK (some way) = some (.int .i64 N)) (hi : i < 0 ∨ (N : Int) ≤ i) : ∃ H', denF Ω1 none2 c18 [.ptr q 0, .int .i64 i] H = some (.tup [.agg [.int .i64 0, .int .i64 0, .nils], .int .i64 5], H') ∧ H'.n = H.n + 1 ∧ (∀ z, z < H.n → H'.get z = H.get z) := by
  have e0 : (H.push (.cells [.int .i64 0, .int .i64 0, .nils] 39 3 .fixed)).get q = _ := (by rw [AHeap.get_push, if_neg (by omega)] : (H.push (.cells [.int .i64 0, .int .i64 0, .nils] 39 3 .fixed)).get q = H.get q).trans hq
  have ha := atq_bad (by simp; omega) e0 hlen hi
  refine ⟨(H.push (.cells [.int .i64 0, .int .i64 0, .nils] 39 3 .fixed)).set H.n (.cells [.int .i64 0, .int .i64 0, .nils] 39 3 .fixed), ?_, by simp, fun z h => by rw [AHeap.get_set, if_neg (by omega), AHeap.get_push, if_neg (by omega)]⟩
  unfold c18
  simp (maxSteps := 10000000) +contextual [go_sem, o1_31, ha]
theorem clearq {H : AHeap} {q : Nat} {u0 u1 u2 u3 u4 u5 u6 u7 u8 : Bool} {way : AVal} {lost : Int} (lq : q < H.n) (hq : H.get q = .cells (nbq u0 u1 u2 u3 u4 u5 u6 u7 u8 way lost) 56 12 .fixed) {N : Nat} (hlen : lenK (some way) = some (.int .i64 N)) (hw : IntKind.i64.wrap (lost + (N : Int)) = lost + N) (hb : way.beq way = true) : ∃ H', denF Ω0 none2 c21 [.ptr q 0] H = some (.int .i64 0, H') ∧ H'.n = H.n ∧ (∀ z, z ≠ q → H'.get z = H.get z) ∧ H'.get q = .cells (nbq u0 u1 u2 u3 u4 u5 u6 u7 u8 .nils (lost + N)) 56 12 .fixed := by
  have n26 := noneq hq
  have ze : ∀ z, ¬ z = q → ¬ z = q := fun _ h => h
  unfold nbq at hq ⊢
  unfold c21
  simp (maxSteps := 10000000) +contextual [go_sem, hq, lq, hlen, hw, hb, o0_26, n26]
theorem countq {H : AHeap} {q : Nat} {u0 u1 u2 u3 u4 u5 u6 u7 u8 : Bool} {way : AVal} {lost : Int} (lq : q < H.n) (hq : H.get q = .cells (nbq u0 u1 u2 u3 u4 u5 u6 u7 u8 way lost) 56 12 .fixed) {N : Nat} (hlen : lenK (some way) = some (.int .i64 N)) : denF Ω0 none2 c14 [.ptr q 0] H = some (.int .i64 N, H) := by
  have n26 := noneq hq
  unfold nbq at hq
  unfold c14
  simp (maxSteps := 10000000) +contextual [go_sem, hq, hlen, o0_26, n26]
theorem lostq {H : AHeap} {q : Nat} {u0 u1 u2 u3 u4 u5 u6 u7 u8 : Bool} {way : AVal} {lost : Int} (lq : q < H.n) (hq : H.get q = .cells (nbq u0 u1 u2 u3 u4 u5 u6 u7 u8 way lost) 56 12 .fixed) : denF Ω0 none2 c15 [.ptr q 0] H = some (.int .i64 lost, H) := by
  have n26 := noneq hq
  unfold nbq at hq
  unfold c15
  simp (maxSteps := 10000000) +contextual [go_sem, hq, o0_26, n26]
end Go.Eng.SeatC
