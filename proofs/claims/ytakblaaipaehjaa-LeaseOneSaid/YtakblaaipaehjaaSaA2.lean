/- Layer 16: LeaseOne, a lease is given. -/
import Derived.Test.YtakblaaipaehjaaSaZ
set_option linter.unusedSimpArgs false
set_option linter.unusedVariables false
set_option maxHeartbeats 40000000
namespace Go.Eng.SeatA
open Go.Proofs
def idxL (x : Act7) (N : Int) : Int := (IntKind.i64.wrap (x.ix.tmod N + N)).tmod N
theorem idxL_of (x : Act7) {N : Nat} (h0 : 0 < N) (h1 : N ≤ 120) : ∃ k : Nat, idxL x N = k ∧ k < N := by
  unfold idxL
  have h2 := Int.tmod_lt_of_pos x.ix (show (0 : Int) < N by omega)
  have h3 : -(N : Int) < x.ix.tmod N := Int.lt_tmod_of_pos x.ix (by omega)
  have h4 : IntKind.i64.wrap (x.ix.tmod N + N) = x.ix.tmod N + N := by rw [IntKind.wrap_i64]; omega
  rw [h4]
  have h5 := Int.tmod_lt_of_pos (x.ix.tmod N + N) (show (0 : Int) < N by omega)
  have h6 : 0 ≤ (x.ix.tmod N + N).tmod N := Int.tmod_nonneg _ (by omega)
  exact ⟨((x.ix.tmod N + N).tmod N).toNat, by omega, by omega⟩
/-- The heap with a lease's own block. -/
def pa (G : AHeap) (e : Ent) : AHeap := (G.push (.cells [.int .i64 0, .int .i64 0, .int .i64 0, .bool false] 44 4 .fixed)).set G.n (.cells e.cs 44 4 .fixed)
theorem pa_n (H : AHeap) (x : Ent) : (pa H x).n = H.n + 1 := by simp [pa]
theorem pa_lt {H : AHeap} {x : Ent} {z : Nat} (h : z < H.n) : (pa H x).get z = H.get z := by
  unfold pa; rw [AHeap.get_set, if_neg (by omega), AHeap.get_push, if_neg (by omega)]
theorem pa_self (H : AHeap) (x : Ent) : (pa H x).get H.n = .cells x.cs 44 4 .fixed := by
  unfold pa; rw [AHeap.get_set, if_pos rfl]
theorem stepG0 {H : AHeap} {bl o n : Nat} {c : Option Nat} {f : Nat → Act7} {A P : Nat} {a0 a1 a2 T0 F0 T1 F1 T2 F2 : Int} {all : AVal} {es : List Ent} {i : Nat} (J : JL H bl o n f A P a0 a1 a2 T0 F0 T1 F1 T2 F2 all es i) (hi : i < n) (hn : n ≤ 120) (k2 : kindL (f i) = 3) (he : es = []) :
    ∃ H', JL H' bl o n f A P a0 a1 a2 T0 F0 T1 F1 T2 F2 all es (i + 1) ∧
      aden Φ8 b8_3 ⟨tmL bl o n c A P all i, H, []⟩ = some (.normal, ⟨tmL bl o n c A P all (i + 1), H', []⟩) := by
  have J1 := (J.keep (H' := px H (f i)) (by rw [px_n]; omega) fun z hz => px_lt hz)
  refine ⟨px H (f i), J1.next (by omega), ?_⟩
  obtain ⟨L, e, es', md, hg, hL, hf⟩ := J.ms
  have hxx := hf i hi
  have hle : o + i * 7 + 7 ≤ L.length := by omega
  have hw : IntKind.i64.wrap ((i : Int) + 1) = ((i : Int) + 1) := by rw [IntKind.wrap_i64]; omega
  have h1 : (i : Int) < (n : Int) := by omega
  unfold kindL at k2
  unfold px
  unfold Act7.cs at hxx ⊢
  unfold b8_3 tmL
  rcases J.hall with ⟨_, rfl⟩ | ⟨q, rfl, _⟩
  · simp (maxSteps := 10000000) +contextual [go_sem, hg, hi, h1, hxx, hle, hw, k2]
  · subst he
    simp (maxSteps := 10000000) +contextual [go_sem, hg, hi, h1, hxx, hle, hw, k2]
theorem stepG1 {H : AHeap} {bl o n : Nat} {c : Option Nat} {f : Nat → Act7} {A P : Nat} {a0 a1 a2 T0 F0 T1 F1 T2 F2 : Int} {all : AVal} {es : List Ent} {i k : Nat} (J : JL H bl o n f A P a0 a1 a2 T0 F0 T1 F1 T2 F2 all es i) (hi : i < n) (hn : n ≤ 120) (k2 : kindL (f i) = 3) (hk : k < es.length) (hidx : idxL (f i) es.length = k)
    (hs : es[k].given = true ∨ barsL (sel T0 T1 T2 es[k].to) (sel F0 F1 F2 es[k].to) es[k].node (sel a0 a1 a2 es[k].to) = true) :
    ∃ H', JL H' bl o n f A P a0 a1 a2 T0 F0 T1 F1 T2 F2 all es (i + 1) ∧
      aden Φ8 b8_3 ⟨tmL bl o n c A P all i, H, []⟩ = some (.normal, ⟨tmL bl o n c A P all (i + 1), H', []⟩) := by
  have lb := J.lb
  have lA := J.lA
  have lP := J.lP
  have J1 := (J.keep (H' := pa (px H (f i)) es[k]) (by rw [pa_n, px_n]; omega) fun z hz => by rw [pa_lt (by rw [px_n]; omega), px_lt hz])
  refine ⟨pa (px H (f i)) es[k], J1.next (by omega), ?_⟩
  obtain ⟨L, e, es', md, hg, hL, hf⟩ := J.ms
  have hxx := hf i hi
  have hle : o + i * 7 + 7 ≤ L.length := by omega
  have hw : IntKind.i64.wrap ((i : Int) + 1) = ((i : Int) + 1) := by rw [IntKind.wrap_i64]; omega
  have h1 : (i : Int) < (n : Int) := by omega
  have hA := J.hA
  have hP := J.hP
  have n1 : ¬ A = H.n := by omega
  have n2 : ¬ P = H.n := by omega
  have n6 : A < H.n + 1 := by omega
  have n7 : P < H.n + 1 := by omega
  have n8 : ¬ A = H.n + 1 := by omega
  have n9 : ¬ P = H.n + 1 := by omega
  have n10 : A < H.n + 1 + 1 := by omega
  have n11 : P < H.n + 1 + 1 := by omega
  unfold kindL at k2
  unfold idxL at hidx
  rcases J.hall with ⟨he, _⟩ | ⟨q, rfl, lq, q1, q2, q3, hQ⟩
  · subst he; simp at hk
  have n12 : ¬ q = H.n := by omega
  have nz : ¬ es = [] := by rintro rfl; simp at hk
  have ht := flat_take es k hk
  have hfl := flat_len es
  have hk4 : k * 4 + 4 ≤ es.length * 4 := by omega
  unfold pa px
  unfold Act7.cs at hxx ⊢
  unfold Ent.cs at ht ⊢
  unfold b8_3 tmL
  cases hgv : es[k].given with
  | true =>
    rw [hgv] at ht
    simp (maxSteps := 10000000) +contextual [go_sem, hg, hi, h1, hxx, hle, hw, k2, nz, hidx, hk, ht, hfl, hk4, n12, hQ]
  | false =>
    rw [hgv] at ht
    have hb := hs.resolve_left (by simp [hgv])
    rcases (J.ents _ (List.getElem_mem hk)).t with t | t | t <;> rw [t] at ht hb <;> simp only [sel0, sel1, sel2] at hb
    all_goals simp (maxSteps := 10000000) +contextual [go_sem, hg, hi, h1, hxx, hle, hw, k2, nz, hidx, hk, ht, t, hfl, hk4, n12, hQ, hb, hA, hP, lA, lP, n1, n2, n6, n7, n8, n9, n10, n11, p8_21, r21]
end Go.Eng.SeatA
