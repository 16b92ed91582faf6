/- Layer 19: ElectNone. -/
import Derived.Test.YtoiceofneelphaaSbU
set_option linter.unusedSimpArgs false
set_option linter.unusedVariables false
set_option maxHeartbeats 40000000
namespace Go.Eng.SeatB
open Go.Proofs
theorem lenK_eq {d : AVal} {n : Int} (h : lenK (some d) = some (.int .i64 n)) : lenK (some d) = some (.int .i64 n) := h
/-- The cells of a message that is handed in. -/
def mcs (k fr t sq st bl : Int) (ok : Bool) (rt rn rs bits : Int) (d : AVal) : List AVal := [.int .i64 k, .int .i64 fr, .int .i64 t, .int .i64 sq, .int .i64 st, .int .i64 bl, .bool ok, .int .i64 rt, .int .i64 rn, .int .i64 rs, .int .u64 bits, d]
theorem none19 {H : AHeap} {k fr t sq st bl : Int} {ok : Bool} {rt rn rs bits : Int} {d : AVal} (hd : d.isCell = true) :
    denF Φ4 none2 c19 [.nilp, .agg (mcs k fr t sq st bl ok rt rn rs bits d)] H = some (.tup [.int .i64 0, .int .i64 1], H.push (.cells (mcs k fr t sq st bl ok rt rn rs bits d) 39 12 .fixed)) := by
  unfold c19 mcs
  simp (maxSteps := 10000000) +contextual [go_sem, hd]
theorem none29 {H : AHeap} {k fr t sq st bl : Int} {ok : Bool} {rt rn rs bits : Int} {d : AVal} (hd : d.isCell = true) :
    denF Φ7 none2 c29 [.nilp, .agg (mcs k fr t sq st bl ok rt rn rs bits d)] H = some (.tup [.int .i64 0, .int .i64 1], H.push (.cells (mcs k fr t sq st bl ok rt rn rs bits d) 39 12 .fixed)) := by
  unfold c29 mcs
  simp (maxSteps := 10000000) +contextual [go_sem, hd]
theorem zero19 {H : AHeap} {q : Nat} {k fr t sq st bl : Int} {ok : Bool} {rt rn rs bits : Int} {d : AVal} (hd : d.isCell = true) (hA : H.get q = .cells [.bool false, .int .i64 0, .int .i64 0, .int .i64 0, .nilp] 48 5 .fixed) (hq : q < H.n) :
    denF Φ4 none2 c19 [.ptr q 0, .agg (mcs k fr t sq st bl ok rt rn rs bits d)] H = some (.tup [.int .i64 0, .int .i64 1], H.push (.cells (mcs k fr t sq st bl ok rt rn rs bits d) 39 12 .fixed)) := by
  have h1 : ¬ q = H.n := by omega
  have h2 : ¬ H.n = q := by omega
  have h5 : q < H.n + 1 := by omega
  unfold c19 mcs
  simp (maxSteps := 10000000) +contextual [go_sem, hd, hA, hq, h1, h2, h5]
theorem zero29 {H : AHeap} {q : Nat} {k fr t sq st bl : Int} {ok : Bool} {rt rn rs bits : Int} {d : AVal} (hd : d.isCell = true) (hA : H.get q = .cells [.bool false, .int .i64 0, .int .i64 0, .nilp, .nilp, .nilp] 52 6 .fixed) (hq : q < H.n) :
    denF Φ7 none2 c29 [.ptr q 0, .agg (mcs k fr t sq st bl ok rt rn rs bits d)] H = some (.tup [.int .i64 0, .int .i64 1], H.push (.cells (mcs k fr t sq st bl ok rt rn rs bits d) 39 12 .fixed)) := by
  have h1 : ¬ q = H.n := by omega
  have h2 : ¬ H.n = q := by omega
  have h5 : q < H.n + 1 := by omega
  unfold c29 mcs
  simp (maxSteps := 10000000) +contextual [go_sem, hd, hA, hq, h1, h2, h5]
theorem none30 {H : AHeap} {who st : Int} : denF Φ7 none2 c30 [.nilp, .int .i64 who, .int .i64 st] H = some (.int .i64 1, H) := by
  unfold c30
  simp (maxSteps := 10000000) +contextual [go_sem]
theorem zero30 {H : AHeap} {q : Nat} {who st : Int} (hA : H.get q = .cells [.bool false, .int .i64 0, .int .i64 0, .nilp, .nilp, .nilp] 52 6 .fixed) : denF Φ7 none2 c30 [.ptr q 0, .int .i64 who, .int .i64 st] H = some (.int .i64 1, H) := by
  unfold c30
  simp (maxSteps := 10000000) +contextual [go_sem, hA]
theorem none21 {H : AHeap} : denF Φ5 none2 c21 [.nilp] H = some (.tup [.int .i64 0, .bool false], H) := by
  unfold c21
  simp (maxSteps := 10000000) +contextual [go_sem]
theorem zero21 {H : AHeap} {q : Nat} (hA : H.get q = .cells [.bool false, .int .i64 0, .int .i64 0, .int .i64 0, .nilp] 48 5 .fixed) : denF Φ5 none2 c21 [.ptr q 0] H = some (.tup [.int .i64 0, .bool false], H) := by
  unfold c21
  simp (maxSteps := 10000000) +contextual [go_sem, hA]
theorem none32 {H : AHeap} {now : Int} : denF Φ5 none2 c32 [.nilp, .int .i64 now] H = some (.int .i64 0, H) := by
  unfold c32
  simp (maxSteps := 10000000) +contextual [go_sem]
theorem zstep32 {H : AHeap} {qa : Nat} {now acc : Int} (k : Nat) (hk : k < 3) (hA : H.get qa = .cells [.bool false, .int .i64 0, .int .i64 0, .nilp, .nilp, .nilp] 52 6 .fixed) :
    aden Φ5 b32_0 ⟨[(1, .int .i64 now), (5, .int .i64 acc), (12, .ptr qa 3), (13, .int .i64 k)], H, []⟩ = some (.normal, ⟨[(1, .int .i64 now), (5, .int .i64 acc), (12, .ptr qa 3), (13, .int .i64 (k + 1 : Nat))], H, []⟩) := by
  rcases (show k = 0 ∨ k = 1 ∨ k = 2 by omega) with rfl | rfl | rfl
  all_goals
    unfold b32_0
    simp (maxSteps := 10000000) +contextual [go_sem, hA, IntKind.wrap_i64]
theorem zero32 {H : AHeap} {q : Nat} {now : Int} (hA : H.get q = .cells [.bool false, .int .i64 0, .int .i64 0, .nilp, .nilp, .nilp] 52 6 .fixed) : denF Φ5 none2 c32 [.ptr q 0, .int .i64 now] H = some (.int .i64 0, H) := by
  have h : iter (aden Φ5 b32_0) (0 + 1 + 1 + 1 + 1) ⟨[(1, .int .i64 now), (5, .int .i64 0), (12, .ptr q 3), (13, .int .i64 (0 : Nat))], H, []⟩ = some (.exit 0, ⟨[(1, .int .i64 now), (5, .int .i64 0), (12, .ptr q 3), (13, .int .i64 3), (14, .bool false)], H, []⟩) := by
    rw [iter_succ, zstep32 0 (by omega) hA, iterK_n, iter_succ, zstep32 (0 + 1) (by omega) hA, iterK_n, iter_succ, zstep32 (0 + 1 + 1) (by omega) hA, iterK_n, iter_succ]
    exact congrArg (fun x => iterK x _ _) last32
  have h := iter_mono h (show 0 + 1 + 1 + 1 + 1 ≤ fuel by unfold fuel; omega)
  rw [show ((0 : Nat) : Int) = 0 from rfl] at h
  unfold c32
  simp (maxSteps := 10000000) +contextual [go_sem, h, hA]
theorem none31 {H : AHeap} {now : Int} : denF Φ7 none2 c31 [.nilp, .int .i64 now] H = some (.bool false, H) := by
  unfold c31
  simp (maxSteps := 10000000) +contextual [go_sem, p7_32, none32]
theorem zero31 {H : AHeap} {q : Nat} {now : Int} (hA : H.get q = .cells [.bool false, .int .i64 0, .int .i64 0, .nilp, .nilp, .nilp] 52 6 .fixed) : denF Φ7 none2 c31 [.ptr q 0, .int .i64 now] H = some (.bool false, H) := by
  unfold c31
  simp (maxSteps := 10000000) +contextual [go_sem, p7_32, zero32 hA]
def Φ10 : Phi := updP (updP Φ8 19 (denF Φ4 none2 c19)) 21 (denF Φ5 none2 c21)
theorem ok10 : ∀ f, Sound Try.prog f (Φ10 f) := updP_ok (updP_ok ok8 (fun_sound ok4 none_soundD mixed Try.func19 cal19 comp19)) (fun_sound ok5 none_soundD mixed Try.func21 cal21 comp21)
theorem p10_19 (l : List AVal) (H : AHeap) : Φ10 19 l H = denF Φ4 none2 c19 l H := (rfl)
theorem p10_21 (l : List AVal) (H : AHeap) : Φ10 21 l H = denF Φ5 none2 c21 l H := (rfl)
theorem p10_29 (l : List AVal) (H : AHeap) : Φ10 29 l H = denF Φ7 none2 c29 l H := (rfl)
theorem p10_30 (l : List AVal) (H : AHeap) : Φ10 30 l H = denF Φ7 none2 c30 l H := (rfl)
theorem p10_31 (l : List AVal) (H : AHeap) : Φ10 31 l H = denF Φ7 none2 c31 l H := (rfl)
theorem p10_32 (l : List AVal) (H : AHeap) : Φ10 32 l H = denF Φ5 none2 c32 l H := (rfl)
theorem p10_16 (l : List AVal) (H : AHeap) : Φ10 16 l H = pspec rTrue16 l H := (rfl)
theorem step5_0 {G : AHeap} {hm r h zr zh : Nat} {k fr t sq st bl : Int} {ok : Bool} {rt rn rs bits fm now : Int} {d : AVal} {tr th : TypeId} (hd : d.isCell = true) (gm : G.get hm = .cells (mcs k fr t sq st bl ok rt rn rs bits d) 39 12 .fixed) (gr : G.get r = .cells [.nilp, .ptr zr 0] tr 1 .fixed) (gh : G.get h = .cells [.nilp, .ptr zh 0] th 1 .fixed) (lm : hm < G.n) (lr : r < G.n) (lh : h < G.n) :
    aden Φ10 b5_0 ⟨[(1, .int .i64 fm), (2, .int .i64 now), (3, .ptr hm 0), (9, .sl r 0 2 (some 2)), (10, .sl h 0 2 (some 2)), (11, .int .i64 0)], G, []⟩ = some (.normal, ⟨[(1, .int .i64 fm), (2, .int .i64 now), (3, .ptr hm 0), (9, .sl r 0 2 (some 2)), (10, .sl h 0 2 (some 2)), (11, .int .i64 1)], (G.push (.cells (mcs k fr t sq st bl ok rt rn rs bits d) 39 12 .fixed)).push (.cells (mcs k fr t sq st bl ok rt rn rs bits d) 39 12 .fixed), []⟩) := by
  have n1 : ¬ hm = G.n := by omega
  have n2 : ¬ r = G.n := by omega
  have n3 : ¬ h = G.n := by omega
  have n4 : ¬ hm = G.n + 1 := by omega
  have n5 : ¬ r = G.n + 1 := by omega
  have n6 : ¬ h = G.n + 1 := by omega
  have l1 : hm < G.n + 1 := by omega
  have l2 : r < G.n + 1 := by omega
  have l3 : h < G.n + 1 := by omega
  have l4 : hm < G.n + 1 + 1 := by omega
  have l5 : r < G.n + 1 + 1 := by omega
  have l6 : h < G.n + 1 + 1 := by omega
  have e19 := none19 (k := k) (fr := fr) (t := t) (sq := sq) (st := st) (bl := bl) (ok := ok) (rt := rt) (rn := rn) (rs := rs) (bits := bits) (H := G) hd
  have e29 := none29 (k := k) (fr := fr) (t := t) (sq := sq) (st := st) (bl := bl) (ok := ok) (rt := rt) (rn := rn) (rs := rs) (bits := bits) (H := G.push (.cells (mcs k fr t sq st bl ok rt rn rs bits d) 39 12 .fixed)) hd
  have e21 := fun G => none21 (H := G)
  have e30 := fun G a b => none30 (H := G) (who := a) (st := b)
  have e31 := fun G a => none31 (H := G) (now := a)
  have e32 := fun G a => none32 (H := G) (now := a)
  unfold mcs at gm e19 e29 ⊢
  unfold b5_0
  simp (maxSteps := 10000000) +contextual [go_sem, gm, gr, gh, lm, lr, lh, hd, n1, n2, n3, n4, n5, n6, l1, l2, l3, l4, l5, l6, e19, e29, e21, e30, e31, e32, p10_19, p10_21, p10_29, p10_30, p10_31, p10_32, IntKind.wrap_i64]
theorem step5_1 {G : AHeap} {hm r h zr zh : Nat} {k fr t sq st bl : Int} {ok : Bool} {rt rn rs bits fm now : Int} {d : AVal} {tr th : TypeId} (hd : d.isCell = true) (gm : G.get hm = .cells (mcs k fr t sq st bl ok rt rn rs bits d) 39 12 .fixed) (gr : G.get r = .cells [.nilp, .ptr zr 0] tr 1 .fixed) (gh : G.get h = .cells [.nilp, .ptr zh 0] th 1 .fixed) (lm : hm < G.n) (lr : r < G.n) (lh : h < G.n) (hz : G.get zr = .cells [.bool false, .int .i64 0, .int .i64 0, .int .i64 0, .nilp] 48 5 .fixed) (hy : G.get zh = .cells [.bool false, .int .i64 0, .int .i64 0, .nilp, .nilp, .nilp] 52 6 .fixed) (lz : zr < G.n) (ly : zh < G.n) :
    aden Φ10 b5_0 ⟨[(1, .int .i64 fm), (2, .int .i64 now), (3, .ptr hm 0), (9, .sl r 0 2 (some 2)), (10, .sl h 0 2 (some 2)), (11, .int .i64 1)], G, []⟩ = some (.normal, ⟨[(1, .int .i64 fm), (2, .int .i64 now), (3, .ptr hm 0), (9, .sl r 0 2 (some 2)), (10, .sl h 0 2 (some 2)), (11, .int .i64 2)], (G.push (.cells (mcs k fr t sq st bl ok rt rn rs bits d) 39 12 .fixed)).push (.cells (mcs k fr t sq st bl ok rt rn rs bits d) 39 12 .fixed), []⟩) := by
  have n1 : ¬ hm = G.n := by omega
  have n2 : ¬ r = G.n := by omega
  have n3 : ¬ h = G.n := by omega
  have n4 : ¬ hm = G.n + 1 := by omega
  have n5 : ¬ r = G.n + 1 := by omega
  have n6 : ¬ h = G.n + 1 := by omega
  have l1 : hm < G.n + 1 := by omega
  have l2 : r < G.n + 1 := by omega
  have l3 : h < G.n + 1 := by omega
  have l4 : hm < G.n + 1 + 1 := by omega
  have l5 : r < G.n + 1 + 1 := by omega
  have l6 : h < G.n + 1 + 1 := by omega
  have e19 := zero19 (q := zr) (k := k) (fr := fr) (t := t) (sq := sq) (st := st) (bl := bl) (ok := ok) (rt := rt) (rn := rn) (rs := rs) (bits := bits) (H := G) hd hz lz
  have e29 := zero29 (q := zh) (k := k) (fr := fr) (t := t) (sq := sq) (st := st) (bl := bl) (ok := ok) (rt := rt) (rn := rn) (rs := rs) (bits := bits) (H := G.push (.cells (mcs k fr t sq st bl ok rt rn rs bits d) 39 12 .fixed)) hd (by rw [AHeap.get_push, if_neg (by omega)]; exact hy) (by simp; omega)
  have g1 : (G.push (.cells (mcs k fr t sq st bl ok rt rn rs bits d) 39 12 .fixed)).get zr = _ := (by rw [AHeap.get_push, if_neg (by omega)] : (G.push (.cells (mcs k fr t sq st bl ok rt rn rs bits d) 39 12 .fixed)).get zr = G.get zr).trans hz
  have g2 : ((G.push (.cells (mcs k fr t sq st bl ok rt rn rs bits d) 39 12 .fixed)).push (.cells (mcs k fr t sq st bl ok rt rn rs bits d) 39 12 .fixed)).get zh = _ := (by rw [AHeap.get_push, if_neg (by simp; omega), AHeap.get_push, if_neg (by omega)] : ((G.push (.cells (mcs k fr t sq st bl ok rt rn rs bits d) 39 12 .fixed)).push (.cells (mcs k fr t sq st bl ok rt rn rs bits d) 39 12 .fixed)).get zh = G.get zh).trans hy
  have e21 := zero21 g1
  have e30 := fun a b => zero30 (who := a) (st := b) g2
  have e31 := fun a => zero31 (now := a) g2
  have e32 := fun a => zero32 (now := a) g2
  unfold mcs at e21 e30 e31 e32
  unfold mcs at gm e19 e29 ⊢
  unfold b5_0
  simp (maxSteps := 10000000) +contextual [go_sem, gm, gr, gh, lm, lr, lh, hd, n1, n2, n3, n4, n5, n6, l1, l2, l3, l4, l5, l6, e19, e29, e21, e30, e31, e32, p10_19, p10_21, p10_29, p10_30, p10_31, p10_32, IntKind.wrap_i64]
theorem iter_nnx {f : ASt → Option (AEx × ASt)} {s s1 s2 s3 : ASt} {id : Nat} (h : f s = some (.normal, s1)) (h1 : f s1 = some (.normal, s2)) (h2 : f s2 = some (.exit id, s3)) : iter f 3 s = some (.exit id, s3) := by
  rw [show (3 : Nat) = 0 + 1 + 1 + 1 from rfl, iter_succ, h, iterK_n, iter_succ, h1, iterK_n, iter_succ, h2, iterK_e]
theorem last5 {H : AHeap} {hm r h : Nat} {fm now : Int} :
    aden Φ10 b5_0 ⟨[(1, .int .i64 fm), (2, .int .i64 now), (3, .ptr hm 0), (9, .sl r 0 2 (some 2)), (10, .sl h 0 2 (some 2)), (11, .int .i64 2)], H, []⟩ = some (.exit 0, ⟨[(1, .int .i64 fm), (2, .int .i64 now), (3, .ptr hm 0), (9, .sl r 0 2 (some 2)), (10, .sl h 0 2 (some 2)), (11, .int .i64 2), (32, .bool false)], H, []⟩) := by
  unfold b5_0
  simp (maxSteps := 10000000) +contextual [go_sem]
theorem law5 {H : AHeap} {k fr t sq st bl : Int} {ok : Bool} {rt rn rs bits fm now n : Int} {d : AVal} (hd : d.isCell = true) (hl : lenK (some d) = some (.int .i64 n)) :
    ∃ H', denF Φ10 none2 c5 [.agg (mcs k fr t sq st bl ok rt rn rs bits d), .int .i64 fm, .int .i64 now] H = some (.bool true, H') := by
  by_cases hn : (100 : Int) < n
  · refine ⟨H.push (.cells (mcs k fr t sq st bl ok rt rn rs bits d) 39 12 .fixed), ?_⟩
    unfold c5 mcs
    simp (maxSteps := 10000000) +contextual [go_sem, hd, hl, hn, p10_16, rTrue16]
  · have G0 : ∃ G : AHeap, G = ((((H.push (.cells (mcs k fr t sq st bl ok rt rn rs bits d) 39 12 .fixed)).push (.cells [.bool false, .int .i64 0, .int .i64 0, .int .i64 0, .nilp] 48 5 .fixed)).push (.cells [.nilp, .ptr (H.n + 1) 0] 25 1 .fixed)).push (.cells [.bool false, .int .i64 0, .int .i64 0, .nilp, .nilp, .nilp] 52 6 .fixed)).push (.cells [.nilp, .ptr (H.n + 1 + 1 + 1) 0] 45 1 .fixed) := ⟨_, rfl⟩
    obtain ⟨G, hG⟩ := G0
    have gn : G.n = H.n + 5 := by rw [hG]; simp
    have g0 : G.get H.n = .cells (mcs k fr t sq st bl ok rt rn rs bits d) 39 12 .fixed := by
      rw [hG]; simp [AHeap.get_push]
      all_goals (repeat rw [if_neg (by omega)])
    have g1 : G.get (H.n + 1) = .cells [.bool false, .int .i64 0, .int .i64 0, .int .i64 0, .nilp] 48 5 .fixed := by
      rw [hG]; simp [AHeap.get_push]
      all_goals (repeat rw [if_neg (by omega)])
    have g2 : G.get (H.n + 1 + 1) = .cells [.nilp, .ptr (H.n + 1) 0] 25 1 .fixed := by
      rw [hG]; simp [AHeap.get_push]
      all_goals (repeat rw [if_neg (by omega)])
    have g3 : G.get (H.n + 1 + 1 + 1) = .cells [.bool false, .int .i64 0, .int .i64 0, .nilp, .nilp, .nilp] 52 6 .fixed := by
      rw [hG]; simp [AHeap.get_push]
      all_goals (repeat rw [if_neg (by omega)])
    have g4 : G.get (H.n + 1 + 1 + 1 + 1) = .cells [.nilp, .ptr (H.n + 1 + 1 + 1) 0] 45 1 .fixed := by
      rw [hG]; simp [AHeap.get_push]
      all_goals (repeat rw [if_neg (by omega)])
    have w : ∀ y, y < G.n → ((G.push (.cells (mcs k fr t sq st bl ok rt rn rs bits d) 39 12 .fixed)).push (.cells (mcs k fr t sq st bl ok rt rn rs bits d) 39 12 .fixed)).get y = G.get y := fun y hy => by
      rw [AHeap.get_push, if_neg (by simp; omega), AHeap.get_push, if_neg (by omega)]
    have e0 := step5_0 (fm := fm) (now := now) hd g0 g2 g4 (by omega) (by omega) (by omega)
    have e1 := step5_1 (fm := fm) (now := now) hd ((w _ (by omega)).trans g0) ((w _ (by omega)).trans g2) ((w _ (by omega)).trans g4) (by simp; omega) (by simp; omega) (by simp; omega) ((w _ (by omega)).trans g1) ((w _ (by omega)).trans g3) (by simp; omega) (by simp; omega)
    have h := iter_mono (iter_nnx e0 e1 last5) (show 3 ≤ fuel by unfold fuel; omega)
    rw [hG] at h
    unfold mcs at h
    unfold c5 mcs
    simp (maxSteps := 10000000) +contextual [go_sem, hd, hl, hn, p10_16, rTrue16, h]
theorem s5 : Sound Try.prog 5 (denF Φ10 none2 c5) := fun_sound ok10 none_soundD mixed Try.func5 cal5 comp5
end Go.Eng.SeatB
