/- Layer 14: NetOrder, what is sent. -/
import Derived.Test.YtgmaknppneonfaaScE
set_option linter.unusedSimpArgs false
set_option linter.unusedVariables false
set_option maxHeartbeats 40000000
namespace Go.Eng.SeatC
open Go.Proofs
structure Pk where
  k : Nat
  i : Nat
  b : Nat
def frK (k : Nat) : Int := if k < 2 then 0 else if k < 4 then 1 else 2
def toK (k : Nat) : Int := if k = 0 ∨ k = 5 then 1 else if k = 1 ∨ k = 3 then 2 else 0
def flatP : List Pk → List AVal
  | [] => []
  | p :: ps => .int .i64 (frK p.k) :: .int .i64 (toK p.k) :: .sl p.b 0 2 none :: flatP ps
theorem flatP_len : ∀ (ps : List Pk), (flatP ps).length = ps.length * 3
  | [] => rfl
  | p :: ps => by simp only [flatP, List.length_cons, flatP_len ps]; omega
theorem flatP_app : ∀ (a b : List Pk), flatP (a ++ b) = flatP a ++ flatP b
  | [], b => rfl
  | p :: a, b => by simp [flatP, flatP_app a b]
theorem flatP_cell : ∀ (ps : List Pk), (flatP ps).all AVal.isCell = true
  | [] => rfl
  | p :: ps => by simp only [flatP, List.all_cons, flatP_cell ps]; rfl
def PkOK (H : AHeap) (p : Pk) : Prop := p.k < 6 ∧ p.i < 100 ∧ p.b < H.n ∧ H.get p.b = .cells [.int .u8 p.i, .int .u8 p.k] 5 1 .elastic
def WayS (H : AHeap) (way : AVal) (ps : List Pk) : Prop := (ps = [] ∧ way = .nils) ∨ ∃ w, 0 < ps.length ∧ way = .sl w 0 ps.length none ∧ w < H.n ∧ H.get w = .cells (flatP ps) 39 3 .elastic
def WayD (H : AHeap) (way : AVal) (ps : List Pk) : Prop := (ps = [] ∧ way = .nils) ∨ ∃ w Z, way = .sl w 0 ps.length none ∧ w < H.n ∧ H.get w = .cells (flatP ps ++ Z) 39 3 .elastic
def WantOK (H : AHeap) (want : AVal) (ws : List Nat) : Prop := (ws = [] ∧ want = .nils) ∨ ∃ t, 0 < ws.length ∧ want = .sl t 0 ws.length none ∧ t < H.n ∧ H.get t = .cells (ws.map fun (i : Nat) => AVal.int .i64 (i : Int)) 3 1 .elastic
theorem WayS.len {H : AHeap} {way : AVal} {ps : List Pk} (h : WayS H way ps) : lenK (some way) = some (.int .i64 ps.length) := by
  rcases h with ⟨rfl, rfl⟩ | ⟨w, _, rfl, _⟩ <;> rfl
theorem WayS.beq {H : AHeap} {way : AVal} {ps : List Pk} (h : WayS H way ps) : way.beq way = true := by
  rcases h with ⟨rfl, rfl⟩ | ⟨w, _, rfl, _⟩ <;> simp [AVal.beq]
theorem WayD.len {H : AHeap} {way : AVal} {ps : List Pk} (h : WayD H way ps) : lenK (some way) = some (.int .i64 ps.length) := by
  rcases h with ⟨rfl, rfl⟩ | ⟨w, _, rfl, _⟩ <;> rfl
theorem WantOK.len {H : AHeap} {want : AVal} {ws : List Nat} (h : WantOK H want ws) : lenK (some want) = some (.int .i64 ws.length) := by
  rcases h with ⟨rfl, rfl⟩ | ⟨w, _, rfl, _⟩ <;> rfl
theorem WayS.ne {H : AHeap} {way : AVal} {ps : List Pk} (h : WayS H way ps) {z : Nat} {x : ABlk} (hz : H.get z = x) (hx : ∀ L, x ≠ .cells L 39 3 .elastic) : ∀ m, way ≠ .sl z 0 m none := by
  intro m e
  rcases h with ⟨_, rfl⟩ | ⟨w, _, rfl, _, hw⟩
  · simp at e
  · simp only [AVal.sl.injEq] at e; obtain ⟨rfl, _⟩ := e; exact hx _ (hz.symm.trans hw)
theorem WantOK.ne {H : AHeap} {want : AVal} {ws : List Nat} (h : WantOK H want ws) {z : Nat} {x : ABlk} (hz : H.get z = x) (hx : ∀ L, x ≠ .cells L 3 1 .elastic) : ∀ m, want ≠ .sl z 0 m none := by
  intro m e
  rcases h with ⟨_, rfl⟩ | ⟨w, _, rfl, _, hw⟩
  · simp at e
  · simp only [AVal.sl.injEq] at e; obtain ⟨rfl, _⟩ := e; exact hx _ (hz.symm.trans hw)
/-- The cells of a net, by its links. -/
def nbc (c0 c1 c2 c3 c4 c5 : Bool) (way : AVal) (lost : Int) : List AVal := [.bool true, .bool false, .bool c0, .bool c1, .bool c2, .bool false, .bool c3, .bool c4, .bool c5, .bool false, way, .int .i64 lost]
theorem nonec {H : AHeap} {q : Nat} {c0 c1 c2 c3 c4 c5 : Bool} {way : AVal} {lost : Int} (hq : H.get q = .cells (nbc c0 c1 c2 c3 c4 c5 way lost) 56 12 .fixed) : denF none2 none2 c26 [.ptr q 0] H = some (.bool false, H) := by
  unfold nbc at hq
  unfold c26
  simp (maxSteps := 10000000) +contextual [go_sem, hq]
theorem linkc {H : AHeap} {f t : Int} (h0 : 0 ≤ f) (h1 : f < 3) (h2 : 0 ≤ t) (h3 : t < 3) (h4 : ¬ f = t) : denF none2 none2 c27 [.int .i64 f, .int .i64 t] H = some (.bool true, H) := by
  unfold c27
  simp (maxSteps := 10000000) +contextual [go_sem, h0, h1, h2, h3, h4]
theorem app_two {G : AHeap} {e b : Nat} {c : Option Nat} {x y : AVal} {ty : TypeId} {md : Mode} (he : G.get e = .cells [] 5 1 .fixed) (hb : G.get b = .cells [x, y] ty 1 md) (hx : x.isCell = true) (hy : y.isCell = true) :
    appendA G 5 1 1 (.sl e 0 0 (some 0)) (.sl b 0 2 c) = some (.sl G.n 0 2 none, G.push (.cells [x, y] 5 1 .elastic)) := by
  simp [appendA, lenA, srcCells, he, hb, hx, hy, roomA]
theorem copied2 {H : AHeap} {b : Nat} {c : Option Nat} {f t : Int} {x y : AVal} {ty : TypeId} {md : Mode} (hb : H.get b = .cells [x, y] ty 1 md) (lb : b < H.n) (hx : x.isCell = true) (hy : y.isCell = true) :
    ∃ H', denF none2 none2 c28 [.agg [.int .i64 f, .int .i64 t, .sl b 0 2 c]] H = some (.agg [.int .i64 f, .int .i64 t, .sl (H.n + 3) 0 2 none], H') ∧ H'.n = H.n + 4 ∧ (∀ z, z < H.n → H'.get z = H.get z) ∧ H'.get (H.n + 3) = .cells [x, y] 5 1 .elastic := by
  have ap := app_two (G := ((H.push (.cells [.int .i64 f, .int .i64 t, .sl b 0 2 c] 39 3 .fixed)).push (.cells [.int .i64 0, .int .i64 0, .nils] 39 3 .fixed)).push (.cells [] 5 1 .fixed)) (e := H.n + 1 + 1) (b := b) (c := c) (by simp [AHeap.get_push]) (by rw [AHeap.get_push, if_neg (by simp; omega), AHeap.get_push, if_neg (by simp; omega), AHeap.get_push, if_neg (by omega)]; exact hb) hx hy
  simp only [AHeap.n_push] at ap
  have e1 : ¬ H.n = H.n + 1 + 1 := by omega
  have e2 : ¬ H.n = H.n + 1 + 1 + 1 := by omega
  have e3 : ¬ H.n + 1 = H.n + 1 + 1 := by omega
  have e4 : ¬ H.n + 1 = H.n + 1 + 1 + 1 := by omega
  have z0 : ∀ z, z < H.n → ¬ z = H.n := fun z h => by omega
  have z1 : ∀ z, z < H.n → ¬ z = H.n + 1 := fun z h => by omega
  have z2 : ∀ z, z < H.n → ¬ z = H.n + 1 + 1 := fun z h => by omega
  have z3 : ∀ z, z < H.n → ¬ z = H.n + 1 + 1 + 1 := fun z h => by omega
  have e5 : ¬ H.n + 3 = H.n := by omega
  have e6 : ¬ H.n + 3 = H.n + 1 := by omega
  have e7 : H.n + 1 + 1 + 1 = H.n + 3 := by omega
  unfold c28
  simp (maxSteps := 10000000) +contextual [go_sem, ap, e1, e2, e3, e4, z0, z1, z2, z3, e5, e6, e7]
theorem ways_app {G : AHeap} {s : Nat} {way : AVal} {ps : List Pk} {p : Pk} (h : WayS G way ps) (hs : G.get s = .cells [.int .i64 (frK p.k), .int .i64 (toK p.k), .sl p.b 0 2 none] 39 3 .fixed) (hN : ps.length ≤ 200) :
    ∃ G', appendA G 39 3 40 way (.sl s 0 1 (some 1)) = some (.sl G.n 0 (ps.length + 1) none, G') ∧ G'.n = G.n + 1 ∧ (∀ z, z < G.n → (∀ m, way ≠ .sl z 0 m none) → G'.get z = G.get z) ∧ WayS G' (.sl G.n 0 (ps.length + 1) none) (ps ++ [p]) := by
  rcases h with ⟨rfl, rfl⟩ | ⟨w, h0, rfl, lw, hw⟩
  · refine ⟨G.push (.cells [.int .i64 (frK p.k), .int .i64 (toK p.k), .sl p.b 0 2 none] 39 3 .elastic), by simp [appendA, lenA, srcCells, hs, AVal.isCell], by simp, fun z hz _ => by rw [AHeap.get_push, if_neg (by omega)], .inr ⟨G.n, by simp, rfl, by simp, by rw [AHeap.get_push, if_pos rfl]; rfl⟩⟩
  · have hL := flatP_len ps
    have e1 : (flatP ps).take (ps.length * 3) = flatP ps := by rw [← hL]; exact List.take_length
    have e2 : ¬ (ps.length + 1) * 3 ≤ ps.length * 3 := by omega
    have e3 : (ps.length + 1) * 40 ≤ 17592186044416 := by omega
    have e4 : ps.length + 1 ≤ 17592186044416 := by omega
    have hn : (G.set w .dead).n = G.n := rfl
    refine ⟨(G.set w .dead).push (.cells (flatP ps ++ [.int .i64 (frK p.k), .int .i64 (toK p.k), .sl p.b 0 2 none]) 39 3 .elastic), by simp [appendA, lenA, srcCells, hs, hw, roomA, hL, e1, e2, e3, e4, AVal.isCell], by simp, fun z hz hne => by rw [AHeap.get_push, if_neg (by rw [hn]; omega), AHeap.get_set, if_neg (fun e => hne ps.length (by rw [e]))], .inr ⟨G.n, by simp, by simp, by simp, ?_⟩⟩
    show AHeap.get _ (G.set w .dead).n = _
    rw [AHeap.get_push, if_pos rfl, flatP_app]; rfl
theorem wants_app {G : AHeap} {s : Nat} {want : AVal} {ws : List Nat} {i : Nat} (h : WantOK G want ws) (hs : G.get s = .cells [.int .i64 i] 3 1 .fixed) (hN : ws.length ≤ 200) :
    ∃ G', appendA G 3 1 8 want (.sl s 0 1 (some 1)) = some (.sl G.n 0 (ws.length + 1) none, G') ∧ G'.n = G.n + 1 ∧ (∀ z, z < G.n → (∀ m, want ≠ .sl z 0 m none) → G'.get z = G.get z) ∧ WantOK G' (.sl G.n 0 (ws.length + 1) none) (ws ++ [i]) := by
  rcases h with ⟨rfl, rfl⟩ | ⟨w, h0, rfl, lw, hw⟩
  · refine ⟨G.push (.cells [.int .i64 i] 3 1 .elastic), by simp [appendA, lenA, srcCells, hs, AVal.isCell], by simp, fun z hz _ => by rw [AHeap.get_push, if_neg (by omega)], .inr ⟨G.n, by simp, rfl, by simp, by rw [AHeap.get_push, if_pos rfl]; rfl⟩⟩
  · have e2 : ¬ ws.length + 1 ≤ ws.length := by omega
    have e1 : (ws.map fun (i : Nat) => AVal.int .i64 (i : Int)).take ws.length = ws.map fun (i : Nat) => AVal.int .i64 (i : Int) := by
      have := List.take_length (l := ws.map fun (i : Nat) => AVal.int .i64 (i : Int))
      rwa [List.length_map] at this
    have e3 : (ws.length + 1) * 8 ≤ 17592186044416 := by omega
    have e4 : ws.length + 1 ≤ 17592186044416 := by omega
    have hn : (G.set w .dead).n = G.n := rfl
    refine ⟨(G.set w .dead).push (.cells ((ws.map fun (i : Nat) => AVal.int .i64 (i : Int)) ++ [.int .i64 i]) 3 1 .elastic), by simp only [appendA, lenA, srcCells, hs, hw, roomA, Option.bind_some]; simp [AVal.isCell, e1, e2, e3, e4], by simp, fun z hz hne => by rw [AHeap.get_push, if_neg (by rw [hn]; omega), AHeap.get_set, if_neg (fun e => hne ws.length (by rw [e]))], .inr ⟨G.n, by simp, by simp, by simp, ?_⟩⟩
    show AHeap.get _ (G.set w .dead).n = _
    rw [AHeap.get_push, if_pos rfl]; simp
theorem send0 {H : AHeap} {q b i : Nat} {c0 c1 c2 c3 c4 c5 : Bool} {way : AVal} {ps : List Pk} {lost : Int} (lq : q < H.n) (hq : H.get q = .cells (nbc c0 c1 c2 c3 c4 c5 way lost) 56 12 .fixed) (hw : WayS H way ps) (hN : ps.length ≤ 200) (hb : H.get b = .cells [.int .u8 i, .int .u8 0] 5 1 .fixed) (lb : b < H.n) (hi : i < 100) (hl : 0 ≤ lost ∧ lost ≤ 10000) :
    ∃ H', denF Ω0 none2 c13 [.ptr q 0, .int .i64 0, .int .i64 1, .sl b 0 2 (some 2)] H = some (.int .i64 0, H') ∧ H.n ≤ H'.n ∧ (∀ z, z < H.n → z ≠ q → (∀ m, way ≠ .sl z 0 m none) → H'.get z = H.get z) ∧ ∃ way' b', H'.get q = .cells (nbc c0 c1 c2 c3 c4 c5 way' (if c0 = true then lost + 1 else lost)) 56 12 .fixed ∧ (if c0 = true then way' = way ∧ H'.n = H.n ∧ (∀ z, z ≠ q → H'.get z = H.get z) else WayS H' way' (ps ++ [⟨0, i, b'⟩]) ∧ PkOK H' ⟨0, i, b'⟩) := by
  have n26 := nonec hq
  have hlen := hw.len
  have hbeq := hw.beq
  have lk : ∀ G, denF none2 none2 c27 [.int .i64 0, .int .i64 1] G = some (.bool true, G) := fun G => linkc (by omega) (by omega) (by omega) (by omega) (by omega)
  have cq : ¬ (4096 : Int) ≤ (ps.length : Int) := by omega
  have hw1 : IntKind.i64.wrap (lost + 1) = lost + 1 := by rw [IntKind.wrap_i64]; omega
  cases hc : c0 with
  | true =>
    subst hc
    refine ⟨H.set q (.cells (nbc true c1 c2 c3 c4 c5 way (lost + 1)) 56 12 .fixed), ?_, Nat.le_refl _, fun z _ h _ => by rw [AHeap.get_set, if_neg h], way, 0, by rw [AHeap.get_set, if_pos rfl, if_pos rfl], by rw [if_pos rfl]; exact ⟨rfl, rfl, fun z h => by rw [AHeap.get_set, if_neg h]⟩⟩
    unfold nbc at hq ⊢
    unfold c13
    simp (maxSteps := 10000000) +contextual [go_sem, hq, lq, hlen, hw1, o0_26, o0_27, o0_28, n26, lk]
  | false =>
    subst hc
    obtain ⟨H1, e1, n1, z1, g1⟩ := copied2 (f := 0) (t := 1) (c := some 2) hb lb rfl rfl
    have hway : WayS (H1.push (.cells [.int .i64 0, .int .i64 1, .sl (H.n + 3) 0 2 none] 39 3 .fixed)) way ps := by
      rcases hw with h | ⟨w, h0, h1, h2, h3⟩
      · exact .inl h
      · exact .inr ⟨w, h0, h1, by simp; omega, by rw [AHeap.get_push, if_neg (by omega), z1 w h2]; exact h3⟩
    obtain ⟨G', e2, n2, g2, w2⟩ := ways_app (s := H.n + 4) (p := ⟨0, i, H.n + 3⟩) hway (by rw [AHeap.get_push, if_pos n1.symm]; rfl) hN
    simp only [AHeap.n_push, n1] at e2 n2 w2 g2
    have fr : ∀ z, z < H.n → (∀ m, way ≠ .sl z 0 m none) → G'.get z = H.get z := fun z hz h => by rw [g2 z (by omega) h, AHeap.get_push, if_neg (by omega)]; exact z1 z hz
    have gq : G'.get q = .cells (nbc false c1 c2 c3 c4 c5 way lost) 56 12 .fixed := (fr q lq (hw.ne hq (by simp))).trans hq
    have gb : G'.get (H.n + 3) = .cells [.int .u8 i, .int .u8 0] 5 1 .elastic := by
      rw [g2 _ (by omega) (fun m e => by
        rcases hw with ⟨_, rfl⟩ | ⟨w, _, rfl, lw, _⟩
        · simp at e
        · simp only [AVal.sl.injEq] at e; omega), AHeap.get_push, if_neg (by omega)]; exact g1
    refine ⟨G'.set q (.cells (nbc false c1 c2 c3 c4 c5 (.sl (H.n + 4 + 1) 0 (ps.length + 1) none) lost) 56 12 .fixed), ?_, by simp; omega, fun z hz h hne => by rw [AHeap.get_set, if_neg h]; exact fr z hz hne, .sl (H.n + 4 + 1) 0 (ps.length + 1) none, H.n + 3, by rw [AHeap.get_set, if_pos rfl]; simp, ?_⟩
    rotate_left
    · rw [if_neg (by simp)]
      refine ⟨?_, show 0 < 6 by omega, hi, show H.n + 3 < G'.n by omega, ?_⟩
      rotate_left
      · show AHeap.get _ (H.n + 3) = _
        rw [AHeap.get_set, if_neg (by omega)]; exact gb
      rcases w2 with ⟨h, _⟩ | ⟨w, a1, a2, a3, a4⟩
      · simp at h
      · simp only [AVal.sl.injEq] at a2
        obtain ⟨rfl, _⟩ := a2
        exact .inr ⟨H.n + 4 + 1, a1, by simp, by simpa using a3, by rw [AHeap.get_set, if_neg (by omega)]; exact a4⟩
    have lq1 : q < H1.n := by omega
    have lq2 : q < G'.n := by omega
    have gq1 : H1.get q = .cells (nbc false c1 c2 c3 c4 c5 way lost) 56 12 .fixed := (z1 q lq).trans hq
    have c2 : ¬ q = H1.n := by omega
    unfold nbc at hq gq gq1 ⊢
    unfold c13
    simp (maxSteps := 10000000) +contextual [go_sem, hq, lq, hlen, cq, o0_26, o0_27, o0_28, n26, lk, e1, e2, gq, gq1, lq1, lq2, c2, n1, hbeq]
theorem send1 {H : AHeap} {q b i : Nat} {c0 c1 c2 c3 c4 c5 : Bool} {way : AVal} {ps : List Pk} {lost : Int} (lq : q < H.n) (hq : H.get q = .cells (nbc c0 c1 c2 c3 c4 c5 way lost) 56 12 .fixed) (hw : WayS H way ps) (hN : ps.length ≤ 200) (hb : H.get b = .cells [.int .u8 i, .int .u8 1] 5 1 .fixed) (lb : b < H.n) (hi : i < 100) (hl : 0 ≤ lost ∧ lost ≤ 10000) :
    ∃ H', denF Ω0 none2 c13 [.ptr q 0, .int .i64 0, .int .i64 2, .sl b 0 2 (some 2)] H = some (.int .i64 0, H') ∧ H.n ≤ H'.n ∧ (∀ z, z < H.n → z ≠ q → (∀ m, way ≠ .sl z 0 m none) → H'.get z = H.get z) ∧ ∃ way' b', H'.get q = .cells (nbc c0 c1 c2 c3 c4 c5 way' (if c1 = true then lost + 1 else lost)) 56 12 .fixed ∧ (if c1 = true then way' = way ∧ H'.n = H.n ∧ (∀ z, z ≠ q → H'.get z = H.get z) else WayS H' way' (ps ++ [⟨1, i, b'⟩]) ∧ PkOK H' ⟨1, i, b'⟩) := by
  have n26 := nonec hq
  have hlen := hw.len
  have hbeq := hw.beq
  have lk : ∀ G, denF none2 none2 c27 [.int .i64 0, .int .i64 2] G = some (.bool true, G) := fun G => linkc (by omega) (by omega) (by omega) (by omega) (by omega)
  have cq : ¬ (4096 : Int) ≤ (ps.length : Int) := by omega
  have hw1 : IntKind.i64.wrap (lost + 1) = lost + 1 := by rw [IntKind.wrap_i64]; omega
  cases hc : c1 with
  | true =>
    subst hc
    refine ⟨H.set q (.cells (nbc c0 true c2 c3 c4 c5 way (lost + 1)) 56 12 .fixed), ?_, Nat.le_refl _, fun z _ h _ => by rw [AHeap.get_set, if_neg h], way, 0, by rw [AHeap.get_set, if_pos rfl, if_pos rfl], by rw [if_pos rfl]; exact ⟨rfl, rfl, fun z h => by rw [AHeap.get_set, if_neg h]⟩⟩
    unfold nbc at hq ⊢
    unfold c13
    simp (maxSteps := 10000000) +contextual [go_sem, hq, lq, hlen, hw1, o0_26, o0_27, o0_28, n26, lk]
  | false =>
    subst hc
    obtain ⟨H1, e1, n1, z1, g1⟩ := copied2 (f := 0) (t := 2) (c := some 2) hb lb rfl rfl
    have hway : WayS (H1.push (.cells [.int .i64 0, .int .i64 2, .sl (H.n + 3) 0 2 none] 39 3 .fixed)) way ps := by
      rcases hw with h | ⟨w, h0, h1, h2, h3⟩
      · exact .inl h
      · exact .inr ⟨w, h0, h1, by simp; omega, by rw [AHeap.get_push, if_neg (by omega), z1 w h2]; exact h3⟩
    obtain ⟨G', e2, n2, g2, w2⟩ := ways_app (s := H.n + 4) (p := ⟨1, i, H.n + 3⟩) hway (by rw [AHeap.get_push, if_pos n1.symm]; rfl) hN
    simp only [AHeap.n_push, n1] at e2 n2 w2 g2
    have fr : ∀ z, z < H.n → (∀ m, way ≠ .sl z 0 m none) → G'.get z = H.get z := fun z hz h => by rw [g2 z (by omega) h, AHeap.get_push, if_neg (by omega)]; exact z1 z hz
    have gq : G'.get q = .cells (nbc c0 false c2 c3 c4 c5 way lost) 56 12 .fixed := (fr q lq (hw.ne hq (by simp))).trans hq
    have gb : G'.get (H.n + 3) = .cells [.int .u8 i, .int .u8 1] 5 1 .elastic := by
      rw [g2 _ (by omega) (fun m e => by
        rcases hw with ⟨_, rfl⟩ | ⟨w, _, rfl, lw, _⟩
        · simp at e
        · simp only [AVal.sl.injEq] at e; omega), AHeap.get_push, if_neg (by omega)]; exact g1
    refine ⟨G'.set q (.cells (nbc c0 false c2 c3 c4 c5 (.sl (H.n + 4 + 1) 0 (ps.length + 1) none) lost) 56 12 .fixed), ?_, by simp; omega, fun z hz h hne => by rw [AHeap.get_set, if_neg h]; exact fr z hz hne, .sl (H.n + 4 + 1) 0 (ps.length + 1) none, H.n + 3, by rw [AHeap.get_set, if_pos rfl]; simp, ?_⟩
    rotate_left
    · rw [if_neg (by simp)]
      refine ⟨?_, show 1 < 6 by omega, hi, show H.n + 3 < G'.n by omega, ?_⟩
      rotate_left
      · show AHeap.get _ (H.n + 3) = _
        rw [AHeap.get_set, if_neg (by omega)]; exact gb
      rcases w2 with ⟨h, _⟩ | ⟨w, a1, a2, a3, a4⟩
      · simp at h
      · simp only [AVal.sl.injEq] at a2
        obtain ⟨rfl, _⟩ := a2
        exact .inr ⟨H.n + 4 + 1, a1, by simp, by simpa using a3, by rw [AHeap.get_set, if_neg (by omega)]; exact a4⟩
    have lq1 : q < H1.n := by omega
    have lq2 : q < G'.n := by omega
    have gq1 : H1.get q = .cells (nbc c0 false c2 c3 c4 c5 way lost) 56 12 .fixed := (z1 q lq).trans hq
    have c2 : ¬ q = H1.n := by omega
    unfold nbc at hq gq gq1 ⊢
    unfold c13
    simp (maxSteps := 10000000) +contextual [go_sem, hq, lq, hlen, cq, o0_26, o0_27, o0_28, n26, lk, e1, e2, gq, gq1, lq1, lq2, c2, n1, hbeq]
theorem send2 {H : AHeap} {q b i : Nat} {c0 c1 c2 c3 c4 c5 : Bool} {way : AVal} {ps : List Pk} {lost : Int} (lq : q < H.n) (hq : H.get q = .cells (nbc c0 c1 c2 c3 c4 c5 way lost) 56 12 .fixed) (hw : WayS H way ps) (hN : ps.length ≤ 200) (hb : H.get b = .cells [.int .u8 i, .int .u8 2] 5 1 .fixed) (lb : b < H.n) (hi : i < 100) (hl : 0 ≤ lost ∧ lost ≤ 10000) :
    ∃ H', denF Ω0 none2 c13 [.ptr q 0, .int .i64 1, .int .i64 0, .sl b 0 2 (some 2)] H = some (.int .i64 0, H') ∧ H.n ≤ H'.n ∧ (∀ z, z < H.n → z ≠ q → (∀ m, way ≠ .sl z 0 m none) → H'.get z = H.get z) ∧ ∃ way' b', H'.get q = .cells (nbc c0 c1 c2 c3 c4 c5 way' (if c2 = true then lost + 1 else lost)) 56 12 .fixed ∧ (if c2 = true then way' = way ∧ H'.n = H.n ∧ (∀ z, z ≠ q → H'.get z = H.get z) else WayS H' way' (ps ++ [⟨2, i, b'⟩]) ∧ PkOK H' ⟨2, i, b'⟩) := by
  have n26 := nonec hq
  have hlen := hw.len
  have hbeq := hw.beq
  have lk : ∀ G, denF none2 none2 c27 [.int .i64 1, .int .i64 0] G = some (.bool true, G) := fun G => linkc (by omega) (by omega) (by omega) (by omega) (by omega)
  have cq : ¬ (4096 : Int) ≤ (ps.length : Int) := by omega
  have hw1 : IntKind.i64.wrap (lost + 1) = lost + 1 := by rw [IntKind.wrap_i64]; omega
  cases hc : c2 with
  | true =>
    subst hc
    refine ⟨H.set q (.cells (nbc c0 c1 true c3 c4 c5 way (lost + 1)) 56 12 .fixed), ?_, Nat.le_refl _, fun z _ h _ => by rw [AHeap.get_set, if_neg h], way, 0, by rw [AHeap.get_set, if_pos rfl, if_pos rfl], by rw [if_pos rfl]; exact ⟨rfl, rfl, fun z h => by rw [AHeap.get_set, if_neg h]⟩⟩
    unfold nbc at hq ⊢
    unfold c13
    simp (maxSteps := 10000000) +contextual [go_sem, hq, lq, hlen, hw1, o0_26, o0_27, o0_28, n26, lk]
  | false =>
    subst hc
    obtain ⟨H1, e1, n1, z1, g1⟩ := copied2 (f := 1) (t := 0) (c := some 2) hb lb rfl rfl
    have hway : WayS (H1.push (.cells [.int .i64 1, .int .i64 0, .sl (H.n + 3) 0 2 none] 39 3 .fixed)) way ps := by
      rcases hw with h | ⟨w, h0, h1, h2, h3⟩
      · exact .inl h
      · exact .inr ⟨w, h0, h1, by simp; omega, by rw [AHeap.get_push, if_neg (by omega), z1 w h2]; exact h3⟩
    obtain ⟨G', e2, n2, g2, w2⟩ := ways_app (s := H.n + 4) (p := ⟨2, i, H.n + 3⟩) hway (by rw [AHeap.get_push, if_pos n1.symm]; rfl) hN
    simp only [AHeap.n_push, n1] at e2 n2 w2 g2
    have fr : ∀ z, z < H.n → (∀ m, way ≠ .sl z 0 m none) → G'.get z = H.get z := fun z hz h => by rw [g2 z (by omega) h, AHeap.get_push, if_neg (by omega)]; exact z1 z hz
    have gq : G'.get q = .cells (nbc c0 c1 false c3 c4 c5 way lost) 56 12 .fixed := (fr q lq (hw.ne hq (by simp))).trans hq
    have gb : G'.get (H.n + 3) = .cells [.int .u8 i, .int .u8 2] 5 1 .elastic := by
      rw [g2 _ (by omega) (fun m e => by
        rcases hw with ⟨_, rfl⟩ | ⟨w, _, rfl, lw, _⟩
        · simp at e
        · simp only [AVal.sl.injEq] at e; omega), AHeap.get_push, if_neg (by omega)]; exact g1
    refine ⟨G'.set q (.cells (nbc c0 c1 false c3 c4 c5 (.sl (H.n + 4 + 1) 0 (ps.length + 1) none) lost) 56 12 .fixed), ?_, by simp; omega, fun z hz h hne => by rw [AHeap.get_set, if_neg h]; exact fr z hz hne, .sl (H.n + 4 + 1) 0 (ps.length + 1) none, H.n + 3, by rw [AHeap.get_set, if_pos rfl]; simp, ?_⟩
    rotate_left
    · rw [if_neg (by simp)]
      refine ⟨?_, show 2 < 6 by omega, hi, show H.n + 3 < G'.n by omega, ?_⟩
      rotate_left
      · show AHeap.get _ (H.n + 3) = _
        rw [AHeap.get_set, if_neg (by omega)]; exact gb
      rcases w2 with ⟨h, _⟩ | ⟨w, a1, a2, a3, a4⟩
      · simp at h
      · simp only [AVal.sl.injEq] at a2
        obtain ⟨rfl, _⟩ := a2
        exact .inr ⟨H.n + 4 + 1, a1, by simp, by simpa using a3, by rw [AHeap.get_set, if_neg (by omega)]; exact a4⟩
    have lq1 : q < H1.n := by omega
    have lq2 : q < G'.n := by omega
    have gq1 : H1.get q = .cells (nbc c0 c1 false c3 c4 c5 way lost) 56 12 .fixed := (z1 q lq).trans hq
    have c2 : ¬ q = H1.n := by omega
    unfold nbc at hq gq gq1 ⊢
    unfold c13
    simp (maxSteps := 10000000) +contextual [go_sem, hq, lq, hlen, cq, o0_26, o0_27, o0_28, n26, lk, e1, e2, gq, gq1, lq1, lq2, c2, n1, hbeq]
theorem send3 {H : AHeap} {q b i : Nat} {c0 c1 c2 c3 c4 c5 : Bool} {way : AVal} {ps : List Pk} {lost : Int} (lq : q < H.n) (hq : H.get q = .cells (nbc c0 c1 c2 c3 c4 c5 way lost) 56 12 .fixed) (hw : WayS H way ps) (hN : ps.length ≤ 200) (hb : H.get b = .cells [.int .u8 i, .int .u8 3] 5 1 .fixed) (lb : b < H.n) (hi : i < 100) (hl : 0 ≤ lost ∧ lost ≤ 10000) :
    ∃ H', denF Ω0 none2 c13 [.ptr q 0, .int .i64 1, .int .i64 2, .sl b 0 2 (some 2)] H = some (.int .i64 0, H') ∧ H.n ≤ H'.n ∧ (∀ z, z < H.n → z ≠ q → (∀ m, way ≠ .sl z 0 m none) → H'.get z = H.get z) ∧ ∃ way' b', H'.get q = .cells (nbc c0 c1 c2 c3 c4 c5 way' (if c3 = true then lost + 1 else lost)) 56 12 .fixed ∧ (if c3 = true then way' = way ∧ H'.n = H.n ∧ (∀ z, z ≠ q → H'.get z = H.get z) else WayS H' way' (ps ++ [⟨3, i, b'⟩]) ∧ PkOK H' ⟨3, i, b'⟩) := by
  have n26 := nonec hq
  have hlen := hw.len
  have hbeq := hw.beq
  have lk : ∀ G, denF none2 none2 c27 [.int .i64 1, .int .i64 2] G = some (.bool true, G) := fun G => linkc (by omega) (by omega) (by omega) (by omega) (by omega)
  have cq : ¬ (4096 : Int) ≤ (ps.length : Int) := by omega
  have hw1 : IntKind.i64.wrap (lost + 1) = lost + 1 := by rw [IntKind.wrap_i64]; omega
  cases hc : c3 with
  | true =>
    subst hc
    refine ⟨H.set q (.cells (nbc c0 c1 c2 true c4 c5 way (lost + 1)) 56 12 .fixed), ?_, Nat.le_refl _, fun z _ h _ => by rw [AHeap.get_set, if_neg h], way, 0, by rw [AHeap.get_set, if_pos rfl, if_pos rfl], by rw [if_pos rfl]; exact ⟨rfl, rfl, fun z h => by rw [AHeap.get_set, if_neg h]⟩⟩
    unfold nbc at hq ⊢
    unfold c13
    simp (maxSteps := 10000000) +contextual [go_sem, hq, lq, hlen, hw1, o0_26, o0_27, o0_28, n26, lk]
  | false =>
    subst hc
    obtain ⟨H1, e1, n1, z1, g1⟩ := copied2 (f := 1) (t := 2) (c := some 2) hb lb rfl rfl
    have hway : WayS (H1.push (.cells [.int .i64 1, .int .i64 2, .sl (H.n + 3) 0 2 none] 39 3 .fixed)) way ps := by
      rcases hw with h | ⟨w, h0, h1, h2, h3⟩
      · exact .inl h
      · exact .inr ⟨w, h0, h1, by simp; omega, by rw [AHeap.get_push, if_neg (by omega), z1 w h2]; exact h3⟩
    obtain ⟨G', e2, n2, g2, w2⟩ := ways_app (s := H.n + 4) (p := ⟨3, i, H.n + 3⟩) hway (by rw [AHeap.get_push, if_pos n1.symm]; rfl) hN
    simp only [AHeap.n_push, n1] at e2 n2 w2 g2
    have fr : ∀ z, z < H.n → (∀ m, way ≠ .sl z 0 m none) → G'.get z = H.get z := fun z hz h => by rw [g2 z (by omega) h, AHeap.get_push, if_neg (by omega)]; exact z1 z hz
    have gq : G'.get q = .cells (nbc c0 c1 c2 false c4 c5 way lost) 56 12 .fixed := (fr q lq (hw.ne hq (by simp))).trans hq
    have gb : G'.get (H.n + 3) = .cells [.int .u8 i, .int .u8 3] 5 1 .elastic := by
      rw [g2 _ (by omega) (fun m e => by
        rcases hw with ⟨_, rfl⟩ | ⟨w, _, rfl, lw, _⟩
        · simp at e
        · simp only [AVal.sl.injEq] at e; omega), AHeap.get_push, if_neg (by omega)]; exact g1
    refine ⟨G'.set q (.cells (nbc c0 c1 c2 false c4 c5 (.sl (H.n + 4 + 1) 0 (ps.length + 1) none) lost) 56 12 .fixed), ?_, by simp; omega, fun z hz h hne => by rw [AHeap.get_set, if_neg h]; exact fr z hz hne, .sl (H.n + 4 + 1) 0 (ps.length + 1) none, H.n + 3, by rw [AHeap.get_set, if_pos rfl]; simp, ?_⟩
    rotate_left
    · rw [if_neg (by simp)]
      refine ⟨?_, show 3 < 6 by omega, hi, show H.n + 3 < G'.n by omega, ?_⟩
      rotate_left
      · show AHeap.get _ (H.n + 3) = _
        rw [AHeap.get_set, if_neg (by omega)]; exact gb
      rcases w2 with ⟨h, _⟩ | ⟨w, a1, a2, a3, a4⟩
      · simp at h
      · simp only [AVal.sl.injEq] at a2
        obtain ⟨rfl, _⟩ := a2
        exact .inr ⟨H.n + 4 + 1, a1, by simp, by simpa using a3, by rw [AHeap.get_set, if_neg (by omega)]; exact a4⟩
    have lq1 : q < H1.n := by omega
    have lq2 : q < G'.n := by omega
    have gq1 : H1.get q = .cells (nbc c0 c1 c2 false c4 c5 way lost) 56 12 .fixed := (z1 q lq).trans hq
    have c2 : ¬ q = H1.n := by omega
    unfold nbc at hq gq gq1 ⊢
    unfold c13
    simp (maxSteps := 10000000) +contextual [go_sem, hq, lq, hlen, cq, o0_26, o0_27, o0_28, n26, lk, e1, e2, gq, gq1, lq1, lq2, c2, n1, hbeq]
theorem send4 {H : AHeap} {q b i : Nat} {c0 c1 c2 c3 c4 c5 : Bool} {way : AVal} {ps : List Pk} {lost : Int} (lq : q < H.n) (hq : H.get q = .cells (nbc c0 c1 c2 c3 c4 c5 way lost) 56 12 .fixed) (hw : WayS H way ps) (hN : ps.length ≤ 200) (hb : H.get b = .cells [.int .u8 i, .int .u8 4] 5 1 .fixed) (lb : b < H.n) (hi : i < 100) (hl : 0 ≤ lost ∧ lost ≤ 10000) :
    ∃ H', denF Ω0 none2 c13 [.ptr q 0, .int .i64 2, .int .i64 0, .sl b 0 2 (some 2)] H = some (.int .i64 0, H') ∧ H.n ≤ H'.n ∧ (∀ z, z < H.n → z ≠ q → (∀ m, way ≠ .sl z 0 m none) → H'.get z = H.get z) ∧ ∃ way' b', H'.get q = .cells (nbc c0 c1 c2 c3 c4 c5 way' (if c4 = true then lost + 1 else lost)) 56 12 .fixed ∧ (if c4 = true then way' = way ∧ H'.n = H.n ∧ (∀ z, z ≠ q → H'.get z = H.get z) else WayS H' way' (ps ++ [⟨4, i, b'⟩]) ∧ PkOK H' ⟨4, i, b'⟩) := by
  have n26 := nonec hq
  have hlen := hw.len
  have hbeq := hw.beq
  have lk : ∀ G, denF none2 none2 c27 [.int .i64 2, .int .i64 0] G = some (.bool true, G) := fun G => linkc (by omega) (by omega) (by omega) (by omega) (by omega)
  have cq : ¬ (4096 : Int) ≤ (ps.length : Int) := by omega
  have hw1 : IntKind.i64.wrap (lost + 1) = lost + 1 := by rw [IntKind.wrap_i64]; omega
  cases hc : c4 with
  | true =>
    subst hc
    refine ⟨H.set q (.cells (nbc c0 c1 c2 c3 true c5 way (lost + 1)) 56 12 .fixed), ?_, Nat.le_refl _, fun z _ h _ => by rw [AHeap.get_set, if_neg h], way, 0, by rw [AHeap.get_set, if_pos rfl, if_pos rfl], by rw [if_pos rfl]; exact ⟨rfl, rfl, fun z h => by rw [AHeap.get_set, if_neg h]⟩⟩
    unfold nbc at hq ⊢
    unfold c13
    simp (maxSteps := 10000000) +contextual [go_sem, hq, lq, hlen, hw1, o0_26, o0_27, o0_28, n26, lk]
  | false =>
    subst hc
    obtain ⟨H1, e1, n1, z1, g1⟩ := copied2 (f := 2) (t := 0) (c := some 2) hb lb rfl rfl
    have hway : WayS (H1.push (.cells [.int .i64 2, .int .i64 0, .sl (H.n + 3) 0 2 none] 39 3 .fixed)) way ps := by
      rcases hw with h | ⟨w, h0, h1, h2, h3⟩
      · exact .inl h
      · exact .inr ⟨w, h0, h1, by simp; omega, by rw [AHeap.get_push, if_neg (by omega), z1 w h2]; exact h3⟩
    obtain ⟨G', e2, n2, g2, w2⟩ := ways_app (s := H.n + 4) (p := ⟨4, i, H.n + 3⟩) hway (by rw [AHeap.get_push, if_pos n1.symm]; rfl) hN
    simp only [AHeap.n_push, n1] at e2 n2 w2 g2
    have fr : ∀ z, z < H.n → (∀ m, way ≠ .sl z 0 m none) → G'.get z = H.get z := fun z hz h => by rw [g2 z (by omega) h, AHeap.get_push, if_neg (by omega)]; exact z1 z hz
    have gq : G'.get q = .cells (nbc c0 c1 c2 c3 false c5 way lost) 56 12 .fixed := (fr q lq (hw.ne hq (by simp))).trans hq
    have gb : G'.get (H.n + 3) = .cells [.int .u8 i, .int .u8 4] 5 1 .elastic := by
      rw [g2 _ (by omega) (fun m e => by
        rcases hw with ⟨_, rfl⟩ | ⟨w, _, rfl, lw, _⟩
        · simp at e
        · simp only [AVal.sl.injEq] at e; omega), AHeap.get_push, if_neg (by omega)]; exact g1
    refine ⟨G'.set q (.cells (nbc c0 c1 c2 c3 false c5 (.sl (H.n + 4 + 1) 0 (ps.length + 1) none) lost) 56 12 .fixed), ?_, by simp; omega, fun z hz h hne => by rw [AHeap.get_set, if_neg h]; exact fr z hz hne, .sl (H.n + 4 + 1) 0 (ps.length + 1) none, H.n + 3, by rw [AHeap.get_set, if_pos rfl]; simp, ?_⟩
    rotate_left
    · rw [if_neg (by simp)]
      refine ⟨?_, show 4 < 6 by omega, hi, show H.n + 3 < G'.n by omega, ?_⟩
      rotate_left
      · show AHeap.get _ (H.n + 3) = _
        rw [AHeap.get_set, if_neg (by omega)]; exact gb
      rcases w2 with ⟨h, _⟩ | ⟨w, a1, a2, a3, a4⟩
      · simp at h
      · simp only [AVal.sl.injEq] at a2
        obtain ⟨rfl, _⟩ := a2
        exact .inr ⟨H.n + 4 + 1, a1, by simp, by simpa using a3, by rw [AHeap.get_set, if_neg (by omega)]; exact a4⟩
    have lq1 : q < H1.n := by omega
    have lq2 : q < G'.n := by omega
    have gq1 : H1.get q = .cells (nbc c0 c1 c2 c3 false c5 way lost) 56 12 .fixed := (z1 q lq).trans hq
    have c2 : ¬ q = H1.n := by omega
    unfold nbc at hq gq gq1 ⊢
    unfold c13
    simp (maxSteps := 10000000) +contextual [go_sem, hq, lq, hlen, cq, o0_26, o0_27, o0_28, n26, lk, e1, e2, gq, gq1, lq1, lq2, c2, n1, hbeq]
theorem send5 {H : AHeap} {q b i : Nat} {c0 c1 c2 c3 c4 c5 : Bool} {way : AVal} {ps : List Pk} {lost : Int} (lq : q < H.n) (hq : H.get q = .cells (nbc c0 c1 c2 c3 c4 c5 way lost) 56 12 .fixed) (hw : WayS H way ps) (hN : ps.length ≤ 200) (hb : H.get b = .cells [.int .u8 i, .int .u8 5] 5 1 .fixed) (lb : b < H.n) (hi : i < 100) (hl : 0 ≤ lost ∧ lost ≤ 10000) :
    ∃ H', denF Ω0 none2 c13 [.ptr q 0, .int .i64 2, .int .i64 1, .sl b 0 2 (some 2)] H = some (.int .i64 0, H') ∧ H.n ≤ H'.n ∧ (∀ z, z < H.n → z ≠ q → (∀ m, way ≠ .sl z 0 m none) → H'.get z = H.get z) ∧ ∃ way' b', H'.get q = .cells (nbc c0 c1 c2 c3 c4 c5 way' (if c5 = true then lost + 1 else lost)) 56 12 .fixed ∧ (if c5 = true then way' = way ∧ H'.n = H.n ∧ (∀ z, z ≠ q → H'.get z = H.get z) else WayS H' way' (ps ++ [⟨5, i, b'⟩]) ∧ PkOK H' ⟨5, i, b'⟩) := by
  have n26 := nonec hq
  have hlen := hw.len
  have hbeq := hw.beq
  have lk : ∀ G, denF none2 none2 c27 [.int .i64 2, .int .i64 1] G = some (.bool true, G) := fun G => linkc (by omega) (by omega) (by omega) (by omega) (by omega)
  have cq : ¬ (4096 : Int) ≤ (ps.length : Int) := by omega
  have hw1 : IntKind.i64.wrap (lost + 1) = lost + 1 := by rw [IntKind.wrap_i64]; omega
  cases hc : c5 with
  | true =>
    subst hc
    refine ⟨H.set q (.cells (nbc c0 c1 c2 c3 c4 true way (lost + 1)) 56 12 .fixed), ?_, Nat.le_refl _, fun z _ h _ => by rw [AHeap.get_set, if_neg h], way, 0, by rw [AHeap.get_set, if_pos rfl, if_pos rfl], by rw [if_pos rfl]; exact ⟨rfl, rfl, fun z h => by rw [AHeap.get_set, if_neg h]⟩⟩
    unfold nbc at hq ⊢
    unfold c13
    simp (maxSteps := 10000000) +contextual [go_sem, hq, lq, hlen, hw1, o0_26, o0_27, o0_28, n26, lk]
  | false =>
    subst hc
    obtain ⟨H1, e1, n1, z1, g1⟩ := copied2 (f := 2) (t := 1) (c := some 2) hb lb rfl rfl
    have hway : WayS (H1.push (.cells [.int .i64 2, .int .i64 1, .sl (H.n + 3) 0 2 none] 39 3 .fixed)) way ps := by
      rcases hw with h | ⟨w, h0, h1, h2, h3⟩
      · exact .inl h
      · exact .inr ⟨w, h0, h1, by simp; omega, by rw [AHeap.get_push, if_neg (by omega), z1 w h2]; exact h3⟩
    obtain ⟨G', e2, n2, g2, w2⟩ := ways_app (s := H.n + 4) (p := ⟨5, i, H.n + 3⟩) hway (by rw [AHeap.get_push, if_pos n1.symm]; rfl) hN
    simp only [AHeap.n_push, n1] at e2 n2 w2 g2
    have fr : ∀ z, z < H.n → (∀ m, way ≠ .sl z 0 m none) → G'.get z = H.get z := fun z hz h => by rw [g2 z (by omega) h, AHeap.get_push, if_neg (by omega)]; exact z1 z hz
    have gq : G'.get q = .cells (nbc c0 c1 c2 c3 c4 false way lost) 56 12 .fixed := (fr q lq (hw.ne hq (by simp))).trans hq
    have gb : G'.get (H.n + 3) = .cells [.int .u8 i, .int .u8 5] 5 1 .elastic := by
      rw [g2 _ (by omega) (fun m e => by
        rcases hw with ⟨_, rfl⟩ | ⟨w, _, rfl, lw, _⟩
        · simp at e
        · simp only [AVal.sl.injEq] at e; omega), AHeap.get_push, if_neg (by omega)]; exact g1
    refine ⟨G'.set q (.cells (nbc c0 c1 c2 c3 c4 false (.sl (H.n + 4 + 1) 0 (ps.length + 1) none) lost) 56 12 .fixed), ?_, by simp; omega, fun z hz h hne => by rw [AHeap.get_set, if_neg h]; exact fr z hz hne, .sl (H.n + 4 + 1) 0 (ps.length + 1) none, H.n + 3, by rw [AHeap.get_set, if_pos rfl]; simp, ?_⟩
    rotate_left
    · rw [if_neg (by simp)]
      refine ⟨?_, show 5 < 6 by omega, hi, show H.n + 3 < G'.n by omega, ?_⟩
      rotate_left
      · show AHeap.get _ (H.n + 3) = _
        rw [AHeap.get_set, if_neg (by omega)]; exact gb
      rcases w2 with ⟨h, _⟩ | ⟨w, a1, a2, a3, a4⟩
      · simp at h
      · simp only [AVal.sl.injEq] at a2
        obtain ⟨rfl, _⟩ := a2
        exact .inr ⟨H.n + 4 + 1, a1, by simp, by simpa using a3, by rw [AHeap.get_set, if_neg (by omega)]; exact a4⟩
    have lq1 : q < H1.n := by omega
    have lq2 : q < G'.n := by omega
    have gq1 : H1.get q = .cells (nbc c0 c1 c2 c3 c4 false way lost) 56 12 .fixed := (z1 q lq).trans hq
    have c2 : ¬ q = H1.n := by omega
    unfold nbc at hq gq gq1 ⊢
    unfold c13
    simp (maxSteps := 10000000) +contextual [go_sem, hq, lq, hlen, cq, o0_26, o0_27, o0_28, n26, lk, e1, e2, gq, gq1, lq1, lq2, c2, n1, hbeq]
end Go.Eng.SeatC
