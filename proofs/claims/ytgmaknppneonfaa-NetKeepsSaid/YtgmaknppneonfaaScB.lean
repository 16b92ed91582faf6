/- Layer 14: a net that sends and doubles. -/
import Derived.Test.YtgmaknppneonfaaScW
import Derived.Test.YtgmaknppneonfaaEngInts
set_option linter.unusedSimpArgs false
set_option linter.unusedVariables false
set_option maxHeartbeats 40000000
namespace Go.Eng
def slK (es : Nat) (lo hi : Option (Option AVal)) (x : Option AVal) : Option Rd := lo.bind fun lo => hi.bind fun hi => match x with
    | some .nils => some (.v ((abounds 0 0 lo hi).map fun _ => .nils))
    | some (.sl b o n (some c)) => some (.v ((abounds n c lo hi).map fun (l, h) => .sl b (if c = l then o else o + l * es) (h - l) (some (c - l))))
    | some (.sl b o n none) => some (.b b (sliceBlk b o n es lo hi))
    | _ => none
theorem ard_slice {τ : Tm} (es : Nat) (x : Opd) (lo hi : Option Opd) : ard τ (.slice es x lo hi) = slK es (evo τ lo) (evo τ hi) (ev τ x) := (rfl)
theorem slK_el (es b o n : Nat) (lo hi : Option AVal) : slK es (some lo) (some hi) (some (.sl b o n none)) = some (.b b (sliceBlk b o n es lo hi)) := (rfl)
attribute [go_sem] ard_slice slK_el
end Go.Eng
namespace Go.Eng.SeatC
open Go.Proofs
/-- The cells of a net, no link of which is cut. -/
def nb (way : AVal) (lost : Int) : List AVal := [.bool true, .bool false, .bool false, .bool false, .bool false, .bool false, .bool false, .bool false, .bool false, .bool false, way, .int .i64 lost]
theorem none26 {H : AHeap} {q : Nat} {way : AVal} {lost : Int} (hq : H.get q = .cells (nb way lost) 56 12 .fixed) : denF none2 none2 c26 [.ptr q 0] H = some (.bool false, H) := by
  unfold nb at hq
  unfold c26
  simp (maxSteps := 10000000) +contextual [go_sem, hq]
theorem link27 {H : AHeap} : denF none2 none2 c27 [.int .i64 0, .int .i64 1] H = some (.bool true, H) := by
  unfold c27
  simp (maxSteps := 10000000) +contextual [go_sem]
theorem app_bytes {G : AHeap} {e b : Nat} {c : Option Nat} {x : AVal} {ty : TypeId} {md : Mode} (he : G.get e = .cells [] 5 1 .fixed) (hb : G.get b = .cells [x] ty 1 md) (hx : x.isCell = true) :
    appendA G 5 1 1 (.sl e 0 0 (some 0)) (.sl b 0 1 c) = some (.sl G.n 0 1 none, G.push (.cells [x] 5 1 .elastic)) := by
  simp [appendA, lenA, srcCells, he, hb, hx, roomA]
theorem copied28 {H : AHeap} {b : Nat} {c : Option Nat} {f t : Int} {x : AVal} {ty : TypeId} {md : Mode} (hb : H.get b = .cells [x] ty 1 md) (lb : b < H.n) (hx : x.isCell = true) :
    ∃ H', denF none2 none2 c28 [.agg [.int .i64 f, .int .i64 t, .sl b 0 1 c]] H = some (.agg [.int .i64 f, .int .i64 t, .sl (H.n + 3) 0 1 none], H') ∧ H'.n = H.n + 4 ∧ (∀ z, z < H.n → H'.get z = H.get z) ∧ H'.get (H.n + 3) = .cells [x] 5 1 .elastic := by
  have ap := app_bytes (G := ((H.push (.cells [.int .i64 f, .int .i64 t, .sl b 0 1 c] 39 3 .fixed)).push (.cells [.int .i64 0, .int .i64 0, .nils] 39 3 .fixed)).push (.cells [] 5 1 .fixed)) (e := H.n + 1 + 1) (b := b) (c := c) (by simp [AHeap.get_push]) (by rw [AHeap.get_push, if_neg (by simp; omega), AHeap.get_push, if_neg (by simp; omega), AHeap.get_push, if_neg (by omega)]; exact hb) hx
  simp only [AHeap.n_push] at ap
  have e1 : ¬ H.n = H.n + 1 + 1 := by omega
  have e2 : ¬ H.n = H.n + 1 + 1 + 1 := by omega
  have e3 : ¬ H.n + 1 = H.n + 1 + 1 := by omega
  have e4 : ¬ H.n + 1 = H.n + 1 + 1 + 1 := by omega
  have z0 : ∀ z, z < H.n → ¬ z = H.n := fun z h => by omega
  have z1 : ∀ z, z < H.n → ¬ z = H.n + 1 := fun z h => by omega
  have z2 : ∀ z, z < H.n → ¬ z = H.n + 1 + 1 := fun z h => by omega
  have z3 : ∀ z, z < H.n → ¬ z = H.n + 1 + 1 + 1 := fun z h => by omega
  have e5 : ¬ H.n + 3 = H.n := by omega
  have e6 : ¬ H.n + 3 = H.n + 1 := by omega
  have e7 : H.n + 1 + 1 + 1 = H.n + 3 := by omega
  unfold c28
  simp (maxSteps := 10000000) +contextual [go_sem, ap, e1, e2, e3, e4, z0, z1, z2, z3, e5, e6, e7]
/-- What is on its way: so many, of which the first one's bytes are known. -/
def WayOK (H : AHeap) (q : Nat) (way : AVal) (N : Nat) : Prop := (N = 0 ∧ way = .nils) ∨ ∃ w L f t b x, 0 < N ∧ way = .sl w 0 N none ∧ w < H.n ∧ w ≠ q ∧ H.get w = .cells L 39 3 .elastic ∧ L.length = N * 3 ∧ L.take 3 = [.int .i64 f, .int .i64 t, .sl b 0 1 none] ∧ b < H.n ∧ b ≠ q ∧ b ≠ w ∧ H.get b = .cells [x] 5 1 .elastic ∧ x.isCell = true
structure JN (H : AHeap) (q N : Nat) (lost : Int) : Prop where
  lq : q < H.n
  w : ∃ way, WayOK H q way N ∧ H.get q = .cells (nb way lost) 56 12 .fixed
theorem WayOK.keep {H H' : AHeap} {q : Nat} {way : AVal} {N : Nat} (h : WayOK H q way N) (hn : H.n ≤ H'.n) (e : ∀ z, z < H.n → z ≠ q → H'.get z = H.get z) : WayOK H' q way N := by
  rcases h with h | ⟨w, L, f, t, b, x, h0, h1, h2, h3, h4, h5, h6, h7, h8, h9, h10, h11⟩
  · exact .inl h
  · exact .inr ⟨w, L, f, t, b, x, h0, h1, by omega, h3, (e w h2 h3).trans h4, h5, h6, by omega, h8, h9, (e b h7 h8).trans h10, h11⟩
/-- A datagram more. -/
theorem way_app {G : AHeap} {q s : Nat} {way : AVal} {N : Nat} {f t : Int} {b : Nat} {x : AVal} (h : WayOK G q way N) (hs : G.get s = .cells [.int .i64 f, .int .i64 t, .sl b 0 1 none] 39 3 .fixed) (ls : s < G.n) (lq : q < G.n) (lb : b < G.n) (bq : b ≠ q) (hb : G.get b = .cells [x] 5 1 .elastic) (hx : x.isCell = true) (hbw : ∀ w m, way = .sl w 0 m none → b ≠ w) (hN : N ≤ 4200) :
    ∃ G', appendA G 39 3 40 way (.sl s 0 1 (some 1)) = some (.sl G.n 0 (N + 1) none, G') ∧ G'.n = G.n + 1 ∧ G'.get q = G.get q ∧ WayOK G' q (.sl G.n 0 (N + 1) none) (N + 1) := by
  rcases h with ⟨rfl, rfl⟩ | ⟨w, L, f', t', b', x', h0, rfl, h2, h3, h4, h5, h6, h7, h8, h9, h10, h11⟩
  · refine ⟨G.push (.cells [.int .i64 f, .int .i64 t, .sl b 0 1 none] 39 3 .elastic), by simp [appendA, lenA, srcCells, hs, AVal.isCell], by simp, by rw [AHeap.get_push, if_neg (by omega)], .inr ⟨G.n, [.int .i64 f, .int .i64 t, .sl b 0 1 none], f, t, b, x, by omega, rfl, by simp, by omega, by rw [AHeap.get_push, if_pos rfl], by simp, by simp, by simp; omega, bq, by omega, by rw [AHeap.get_push, if_neg (by omega)]; exact hb, hx⟩⟩
  · have e1 : L.take (N * 3) = L := by rw [← h5]; exact List.take_length
    have e2 : ¬ (N + 1) * 3 ≤ N * 3 := by omega
    have e3 : (N + 1) * 40 ≤ 17592186044416 := by omega
    have e4 : N + 1 ≤ 17592186044416 := by omega
    have hn : (G.set w .dead).n = G.n := rfl
    refine ⟨(G.set w .dead).push (.cells (L ++ [.int .i64 f, .int .i64 t, .sl b 0 1 none]) 39 3 .elastic), by simp [appendA, lenA, srcCells, hs, h4, roomA, h5, e1, e2, e3, e4, AVal.isCell], by simp, by rw [AHeap.get_push, if_neg (by rw [hn]; omega), AHeap.get_set, if_neg (Ne.symm h3)], .inr ⟨G.n, L ++ [.int .i64 f, .int .i64 t, .sl b 0 1 none], f', t', b', x', by omega, rfl, by simp, by omega, ?_, by simp; omega, ?_, by simp; omega, h8, by omega, ?_, h11⟩⟩
    · show AHeap.get _ (G.set w .dead).n = _
      rw [AHeap.get_push, if_pos rfl]
    · rw [List.take_append_of_le_length (by omega)]; exact h6
    · rw [AHeap.get_push, if_neg (by rw [hn]; omega), AHeap.get_set, if_neg h9]; exact h10
def Ω0 : Phi := updP (updP (updP none2 26 (denF none2 none2 c26)) 27 (denF none2 none2 c27)) 28 (denF none2 none2 c28)
theorem oko0 : ∀ f, Sound Try.prog f (Ω0 f) := updP_ok (updP_ok (updP_ok none_sound (fun_sound none_sound none_soundD mixed Try.func26 cal26 comp26)) (fun_sound none_sound none_soundD mixed Try.func27 cal27 comp27)) (fun_sound none_sound none_soundD mixed Try.func28 cal28 comp28)
theorem o0_26 (l : List AVal) (H : AHeap) : Ω0 26 l H = denF none2 none2 c26 l H := (rfl)
theorem o0_27 (l : List AVal) (H : AHeap) : Ω0 27 l H = denF none2 none2 c27 l H := (rfl)
theorem o0_28 (l : List AVal) (H : AHeap) : Ω0 28 l H = denF none2 none2 c28 l H := (rfl)
theorem JN.send {H : AHeap} {q N b : Nat} {lost : Int} {x : AVal} (J : JN H q N lost) (hN : N ≤ 4096) (hb : H.get b = .cells [x] 5 1 .fixed) (lb : b < H.n) (bq : b ≠ q) (hx : x.isCell = true) (hl : 0 ≤ lost ∧ lost ≤ 10000) :
    ∃ H', denF Ω0 none2 c13 [.ptr q 0, .int .i64 0, .int .i64 1, .sl b 0 1 (some 1)] H = some (.int .i64 0, H') ∧ JN H' q (if N < 4096 then N + 1 else N) (if N < 4096 then lost else lost + 1) := by
  obtain ⟨lq, way, hw, hq⟩ := J
  have n26 := none26 hq
  have hlen : lenK (some way) = some (.int .i64 N) := by
    rcases hw with ⟨rfl, rfl⟩ | ⟨w, L, f, t, b', x', h0, rfl, _⟩ <;> rfl
  have hbeq : way.beq way = true := by
    rcases hw with ⟨rfl, rfl⟩ | ⟨w, L, f, t, b', x', h0, rfl, _⟩ <;> simp [AVal.beq]
  by_cases hlt : N < 4096
  · obtain ⟨H1, e1, n1, z1, g1⟩ := copied28 (f := 0) (t := 1) (c := some 1) hb lb hx
    have hway : WayOK (H1.push (.cells [.int .i64 0, .int .i64 1, .sl (H.n + 3) 0 1 none] 39 3 .fixed)) q way N := hw.keep (by simp; omega) fun z hz _ => by rw [AHeap.get_push, if_neg (by omega)]; exact z1 z hz
    obtain ⟨G', e2, n2, g2, w2⟩ := way_app (s := H.n + 4) (f := 0) (t := 1) (b := H.n + 3) (x := x) hway (by rw [AHeap.get_push, if_pos n1.symm]) (by simp; omega) (by simp; omega) (by simp; omega) (by omega) (by rw [AHeap.get_push, if_neg (by omega)]; exact g1) hx (fun w m h => by
      rcases hw with ⟨_, rfl⟩ | ⟨w', L, f, t, b', x', h0, rfl, h2, _⟩
      · simp at h
      · simp only [AVal.sl.injEq] at h; obtain ⟨rfl, _⟩ := h; omega) (by omega)
    simp only [AHeap.n_push, n1] at e2 n2 w2
    have gq : G'.get q = .cells (nb way lost) 56 12 .fixed := by
      rw [g2, AHeap.get_push, if_neg (by omega), z1 q lq]; exact hq
    rw [if_pos hlt, if_pos hlt]
    refine ⟨G'.set q (.cells (nb (.sl (H.n + 4 + 1) 0 (N + 1) none) lost) 56 12 .fixed), ?_, ⟨by simp; omega, _, w2.keep (by simp) fun z _ h => by rw [AHeap.get_set, if_neg h], by rw [AHeap.get_set, if_pos rfl]⟩⟩
    have c1 : ¬ (4096 : Int) ≤ (N : Int) := by omega
    have lq1 : q < H1.n := by omega
    have lq2 : q < G'.n := by omega
    have gq1 : H1.get q = .cells (nb way lost) 56 12 .fixed := (z1 q lq).trans hq
    have c2 : ¬ q = H1.n := by omega
    unfold nb at hq gq gq1 ⊢
    unfold c13
    simp (maxSteps := 10000000) +contextual [go_sem, hq, lq, hlen, c1, o0_26, o0_27, o0_28, n26, link27, e1, e2, gq, gq1, lq1, lq2, c2, n1, hbeq]
  · rw [if_neg hlt, if_neg hlt]
    have c1 : (4096 : Int) ≤ (N : Int) := by omega
    have hw1 : IntKind.i64.wrap (lost + 1) = lost + 1 := by rw [IntKind.wrap_i64]; omega
    refine ⟨H.set q (.cells (nb way (lost + 1)) 56 12 .fixed), ?_, ⟨by simpa using lq, way, hw.keep (by simp) fun z _ h => by rw [AHeap.get_set, if_neg h], by rw [AHeap.get_set, if_pos rfl]⟩⟩
    unfold nb at hq ⊢
    unfold c13
    simp (maxSteps := 10000000) +contextual [go_sem, hq, lq, hlen, c1, hw1, o0_26, o0_27, o0_28, n26, link27]
end Go.Eng.SeatC
