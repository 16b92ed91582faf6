/- Layer 19: races. -/
import Derived.Test.YtoiceofneelphaaSbM
import Derived.Test.YtoiceofneelphaaEngLeafK
set_option linter.unusedSimpArgs false
set_option linter.unusedVariables false
set_option maxHeartbeats 40000000
namespace Go.Eng.SeatB
open Go.Proofs
/-- A message, as it lies in memory. -/
structure Msg where
  kind : Int
  fr : Int
  term : Int
  seq : Int
  stamp : Int
  block : Int
  ok : Bool
  rt : Int
  rn : Int
  rs : Int
  bits : Int
  da : Option Addr
  dn : Nat
  dc : Nat
def Msg.cs (m : Msg) : List AVal := [.int .i64 m.kind, .int .i64 m.fr, .int .i64 m.term, .int .i64 m.seq, .int .i64 m.stamp, .int .i64 m.block, .bool m.ok, .int .i64 m.rt, .int .i64 m.rn, .int .i64 m.rs, .int .u64 m.bits, .raw (.slice m.da m.dn m.dc)]
def good (node k : Int) (m : Msg) : Bool := decide (m.kind = k) && fromL node m.fr && inL m.term
def hit (term stamp : Int) (m : Msg) : Bool := m.ok && decide (m.term = term) && decide (m.stamp = stamp)
def rRight : List AVal → Option AVal
  | [.agg [.int .i64 k, .int .i64 fr, .int .i64 t, .int .i64 _, .int .i64 _, .int .i64 _, .bool _, .int .i64 _, .int .i64 _, .int .i64 _, .int .u64 _, .raw (.slice _ _ _)], .int .i64 kind, .int .i64 node] => some (.bool (decide (k = kind) && fromL node fr && inL t))
  | _ => none
theorem s77 : Sound Try.prog 77 (pspec rRight) := by
  refine (fun_sound ok4 none_soundD mixed Try.func77 cal77 comp77).pspec (φ := denF Φ4 none2 c77) fun args v h => ?_
  unfold rRight at h
  split at h
  · simp only [Option.some.injEq] at h; subst h
    refine ⟨by simp [AVal.scals, AVal.scal], by simp [AVal.scals, AVal.scal], ?_⟩
    unfold c77
    simp (maxSteps := 10000000) +contextual [go_sem, p4_73, rIn]
    all_goals repeat' split
    all_goals refine ansE_bool ?_
    all_goals simp only [fromL] at *
    all_goals (try simp_all)
    all_goals (try omega)
  · simp at h
def Φ5 : Phi := updP Φ4 77 (pspec rRight)
theorem ok5 : ∀ f, Sound Try.prog f (Φ5 f) := updP_ok ok4 s77
theorem p5_77 (l : List AVal) (H : AHeap) : Φ5 77 l H = pspec rRight l H := (rfl)
theorem p5_78 (l : List AVal) (H : AHeap) : Φ5 78 l H = pspec rAbove l H := (rfl)
theorem p5_71 (l : List AVal) (H : AHeap) : Φ5 71 l H = pspec rMay l H := (rfl)
theorem p5_72 (l : List AVal) (H : AHeap) : Φ5 72 l H = pspec rIn l H := (rfl)
theorem p5_73 (l : List AVal) (H : AHeap) : Φ5 73 l H = pspec rIn l H := (rfl)
theorem p5_74 (l : List AVal) (H : AHeap) : Φ5 74 l H = pspec rIn l H := (rfl)
theorem p5_16 (l : List AVal) (H : AHeap) : Φ5 16 l H = pspec rTrue16 l H := (rfl)
theorem hear19_bad {H : AHeap} {qa : Nat} {node term stamp : Int} {first : AVal} (hA : H.get qa = .cells [.bool true, .int .i64 node, .int .i64 term, .int .i64 stamp, first] 48 5 .fixed) (hq : qa < H.n) (m : Msg) (hg : good node 2 m = false) :
    denF Φ4 none2 c19 [.ptr qa 0, .agg m.cs] H = some (.tup [.int .i64 0, .int .i64 2], H.push (.cells m.cs 39 12 .fixed)) := by
  have h1 : ¬ qa = H.n := by omega
  have h2 : ¬ H.n = qa := by omega
  have h5 : qa < H.n + 1 := by omega
  have h6 : qa < H.n + 1 + 1 := by omega
  unfold c19 Msg.cs
  by_cases e1 : m.kind = 2
  · cases e2 : fromL node m.fr with
    | false => simp (maxSteps := 10000000) +contextual [go_sem, hA, hq, h1, h2, h5, h6, p4_75, p4_72, p4_76, rFrom, rIn, rAbove, e1, e2]
    | true =>
      have e3 : inL m.term = false := by simpa [good, e1, e2] using hg
      simp (maxSteps := 10000000) +contextual [go_sem, hA, hq, h1, h2, h5, h6, p4_75, p4_72, p4_76, rFrom, rIn, rAbove, e1, e2, e3]
  · simp (maxSteps := 10000000) +contextual [go_sem, hA, hq, h1, h2, h5, h6, p4_75, p4_72, p4_76, rFrom, rIn, rAbove, e1]
theorem good_eq {node k : Int} {m : Msg} (hg : good node k m = true) : m.kind = k ∧ fromL node m.fr = true ∧ inL m.term = true := by
  simp only [good, Bool.and_eq_true, decide_eq_true_eq] at hg
  exact ⟨hg.1.1, hg.1.2, hg.2⟩
theorem hear19_miss {H : AHeap} {qa : Nat} {node term stamp : Int} {first : AVal} (hA : H.get qa = .cells [.bool true, .int .i64 node, .int .i64 term, .int .i64 stamp, first] 48 5 .fixed) (hq : qa < H.n) (m : Msg) (hg : good node 2 m = true) (hh : hit term stamp m = false) :
    denF Φ4 none2 c19 [.ptr qa 0, .agg m.cs] H = some (.tup [.int .i64 (aboveL m.term term), .int .i64 0], H.push (.cells m.cs 39 12 .fixed)) := by
  have h1 : ¬ qa = H.n := by omega
  have h2 : ¬ H.n = qa := by omega
  have h5 : qa < H.n + 1 := by omega
  have h6 : qa < H.n + 1 + 1 := by omega
  obtain ⟨e1, e2, e3⟩ := good_eq hg
  unfold c19 Msg.cs
  cases e4 : m.ok with
  | false => simp (maxSteps := 10000000) +contextual [go_sem, hA, hq, h1, h2, h5, h6, p4_75, p4_72, p4_76, rFrom, rIn, rAbove, e1, e2, e3, e4]
  | true =>
    by_cases e5 : m.term = term
    · have e6 : ¬ m.stamp = stamp := by simpa [hit, e4, e5] using hh
      have e7 : inL term = true := by rw [← e5]; exact e3
      simp (maxSteps := 10000000) +contextual [go_sem, hA, hq, h1, h2, h5, h6, p4_75, p4_72, p4_76, rFrom, rIn, rAbove, e1, e2, e3, e4, e5, e6, e7]
    · simp (maxSteps := 10000000) +contextual [go_sem, hA, hq, h1, h2, h5, h6, p4_75, p4_72, p4_76, rFrom, rIn, rAbove, e1, e2, e3, e4, e5]
theorem hit_eq {term stamp : Int} {m : Msg} (hg : hit term stamp m = true) : m.ok = true ∧ m.term = term ∧ m.stamp = stamp := by
  simp only [hit, Bool.and_eq_true, decide_eq_true_eq] at hg
  exact ⟨hg.1.1, hg.1.2, hg.2⟩
theorem hear19_late {H : AHeap} {qa w : Nat} {node term stamp : Int} (hA : H.get qa = .cells [.bool true, .int .i64 node, .int .i64 term, .int .i64 stamp, .ptr w 0] 48 5 .fixed) (hq : qa < H.n) (m : Msg) (hg : good node 2 m = true) (hh : hit term stamp m = true) :
    denF Φ4 none2 c19 [.ptr qa 0, .agg m.cs] H = some (.tup [.int .i64 (aboveL m.term term), .int .i64 0], H.push (.cells m.cs 39 12 .fixed)) := by
  have h1 : ¬ qa = H.n := by omega
  have h2 : ¬ H.n = qa := by omega
  have h5 : qa < H.n + 1 := by omega
  have h6 : qa < H.n + 1 + 1 := by omega
  obtain ⟨e1, e2, e3⟩ := good_eq hg
  obtain ⟨e4, e5, e6⟩ := hit_eq hh
  have e7 : inL term = true := by rw [← e5]; exact e3
  unfold c19 Msg.cs
  simp (maxSteps := 10000000) +contextual [go_sem, hA, hq, h1, h2, h5, h6, p4_75, p4_72, p4_76, rFrom, rIn, rAbove, e1, e2, e3, e4, e5, e6, e7]
theorem hear19_first {H : AHeap} {qa : Nat} {node term stamp : Int} (hA : H.get qa = .cells [.bool true, .int .i64 node, .int .i64 term, .int .i64 stamp, .nilp] 48 5 .fixed) (hq : qa < H.n) (m : Msg) (hg : good node 2 m = true) (hh : hit term stamp m = true) :
    ∃ H' : AHeap, denF Φ4 none2 c19 [.ptr qa 0, .agg m.cs] H = some (.tup [.int .i64 (aboveL m.term term), .int .i64 0], H') ∧ H'.n = H.n + 2 ∧ (∀ x, x < H.n → x ≠ qa → H'.get x = H.get x) ∧ H'.get qa = .cells [.bool true, .int .i64 node, .int .i64 term, .int .i64 stamp, .ptr (H.n + 1) 0] 48 5 .fixed ∧ H'.get (H.n + 1) = .cells [.int .i64 m.fr] 3 1 .fixed := by
  have h1 : ¬ qa = H.n := by omega
  have h2 : ¬ H.n = qa := by omega
  have h5 : qa < H.n + 1 := by omega
  have h6 : qa < H.n + 1 + 1 := by omega
  have h3 : ¬ qa = H.n + 1 := by omega
  have h4 : ¬ H.n + 1 = qa := by omega
  obtain ⟨e1, e2, e3⟩ := good_eq hg
  obtain ⟨e4, e5, e6⟩ := hit_eq hh
  have e7 : inL term = true := by rw [← e5]; exact e3
  unfold c19 Msg.cs
  refine ⟨(((H.push (.cells [.int .i64 m.kind, .int .i64 m.fr, .int .i64 m.term, .int .i64 m.seq, .int .i64 m.stamp, .int .i64 m.block, .bool m.ok, .int .i64 m.rt, .int .i64 m.rn, .int .i64 m.rs, .int .u64 m.bits, .raw (.slice m.da m.dn m.dc)] 39 12 .fixed)).push (.cells [.int .i64 0] 3 1 .fixed)).set (H.n + 1) (.cells [.int .i64 m.fr] 3 1 .fixed)).set qa (.cells [.bool true, .int .i64 node, .int .i64 term, .int .i64 stamp, .ptr (H.n + 1) 0] 48 5 .fixed), ?_, rfl, ?_, ?_, ?_⟩
  · simp (maxSteps := 10000000) +contextual [go_sem, hA, hq, h1, h2, h5, h6, h3, h4, p4_75, p4_72, p4_76, rFrom, rIn, rAbove, e1, e2, e3, e4, e5, e6, e7]
  · intro x hx hxq
    have g1 : ¬ x = H.n + 1 := by omega
    have g2 : ¬ x = H.n := by omega
    simp [AHeap.get_set, AHeap.get_push, hxq, g1, g2]
  · simp [AHeap.get_set]
  · simp [AHeap.get_set, h4]
theorem hear20_bad {H : AHeap} {qa : Nat} {node term stamp fr : Int} (hA : H.get qa = .cells [.int .i64 node, .int .i64 term, .int .i64 stamp, .int .i64 fr] 130 4 .fixed) (hq : qa < H.n) (m : Msg) (hg : good node 2 m = false) :
    denF Φ5 none2 c20 [.ptr qa 0, .agg m.cs] H = some (.tup [.int .i64 0, .int .i64 2], H.push (.cells m.cs 39 12 .fixed)) := by
  have h1 : ¬ qa = H.n := by omega
  have h2 : ¬ H.n = qa := by omega
  have h5 : qa < H.n + 1 := by omega
  have h6 : qa < H.n + 1 + 1 := by omega
  have hg' := hg
  unfold good at hg'
  unfold c20 Msg.cs
  simp (maxSteps := 10000000) +contextual [go_sem, hA, hq, h1, h2, h5, h6, p5_77, p5_78, rRight, rAbove, hg']
theorem hear20_miss {H : AHeap} {qa : Nat} {node term stamp fr : Int} (hA : H.get qa = .cells [.int .i64 node, .int .i64 term, .int .i64 stamp, .int .i64 fr] 130 4 .fixed) (hq : qa < H.n) (m : Msg) (hg : good node 2 m = true) (hh : hit term stamp m = false) :
    denF Φ5 none2 c20 [.ptr qa 0, .agg m.cs] H = some (.tup [.int .i64 (aboveL m.term term), .int .i64 0], H.push (.cells m.cs 39 12 .fixed)) := by
  have h1 : ¬ qa = H.n := by omega
  have h2 : ¬ H.n = qa := by omega
  have h5 : qa < H.n + 1 := by omega
  have h6 : qa < H.n + 1 + 1 := by omega
  obtain ⟨e1, e2, e3⟩ := good_eq hg
  unfold c20 Msg.cs
  cases e4 : m.ok with
  | false => simp (maxSteps := 10000000) +contextual [go_sem, hA, hq, h1, h2, h5, h6, p5_77, p5_78, rRight, rAbove, e1, e2, e3, e4]
  | true =>
    by_cases e5 : m.term = term
    · have e6 : ¬ m.stamp = stamp := by simpa [hit, e4, e5] using hh
      have e7 : inL term = true := by rw [← e5]; exact e3
      simp (maxSteps := 10000000) +contextual [go_sem, hA, hq, h1, h2, h5, h6, p5_77, p5_78, rRight, rAbove, e1, e2, e3, e4, e5, e6, e7]
    · simp (maxSteps := 10000000) +contextual [go_sem, hA, hq, h1, h2, h5, h6, p5_77, p5_78, rRight, rAbove, e1, e2, e3, e4, e5]
theorem hear20_late {H : AHeap} {qa : Nat} {node term stamp fr : Int} (hA : H.get qa = .cells [.int .i64 node, .int .i64 term, .int .i64 stamp, .int .i64 fr] 130 4 .fixed) (hq : qa < H.n) (m : Msg) (hg : good node 2 m = true) (hh : hit term stamp m = true) (hf : 0 ≤ fr) :
    denF Φ5 none2 c20 [.ptr qa 0, .agg m.cs] H = some (.tup [.int .i64 (aboveL m.term term), .int .i64 0], H.push (.cells m.cs 39 12 .fixed)) := by
  have h1 : ¬ qa = H.n := by omega
  have h2 : ¬ H.n = qa := by omega
  have h5 : qa < H.n + 1 := by omega
  have h6 : qa < H.n + 1 + 1 := by omega
  obtain ⟨e1, e2, e3⟩ := good_eq hg
  obtain ⟨e4, e5, e6⟩ := hit_eq hh
  have e7 : inL term = true := by rw [← e5]; exact e3
  have e8 : ¬ fr < 0 := by omega
  unfold c20 Msg.cs
  simp (maxSteps := 10000000) +contextual [go_sem, hA, hq, h1, h2, h5, h6, p5_77, p5_78, rRight, rAbove, e1, e2, e3, e4, e5, e6, e7, e8]
theorem hear20_first {H : AHeap} {qa : Nat} {node term stamp fr : Int} (hA : H.get qa = .cells [.int .i64 node, .int .i64 term, .int .i64 stamp, .int .i64 fr] 130 4 .fixed) (hq : qa < H.n) (m : Msg) (hg : good node 2 m = true) (hh : hit term stamp m = true) (hf : fr < 0) :
    denF Φ5 none2 c20 [.ptr qa 0, .agg m.cs] H = some (.tup [.int .i64 (aboveL m.term term), .int .i64 0], (H.push (.cells m.cs 39 12 .fixed)).set qa (.cells [.int .i64 node, .int .i64 term, .int .i64 stamp, .int .i64 m.fr] 130 4 .fixed)) := by
  have h1 : ¬ qa = H.n := by omega
  have h2 : ¬ H.n = qa := by omega
  have h5 : qa < H.n + 1 := by omega
  have h6 : qa < H.n + 1 + 1 := by omega
  obtain ⟨e1, e2, e3⟩ := good_eq hg
  obtain ⟨e4, e5, e6⟩ := hit_eq hh
  have e7 : inL term = true := by rw [← e5]; exact e3
  unfold c20 Msg.cs
  simp (maxSteps := 10000000) +contextual [go_sem, hA, hq, h1, h2, h5, h6, p5_77, p5_78, rRight, rAbove, e1, e2, e3, e4, e5, e6, e7, hf]
theorem won21_no {H : AHeap} {qa : Nat} {node term stamp : Int} (hA : H.get qa = .cells [.bool true, .int .i64 node, .int .i64 term, .int .i64 stamp, .nilp] 48 5 .fixed) (hq : qa < H.n) :
    denF Φ5 none2 c21 [.ptr qa 0] H = some (.tup [.int .i64 0, .bool false], H) := by
  unfold c21
  simp (maxSteps := 10000000) +contextual [go_sem, hA, hq]
theorem won21_yes {H : AHeap} {qa w : Nat} {node term stamp fr : Int} (hA : H.get qa = .cells [.bool true, .int .i64 node, .int .i64 term, .int .i64 stamp, .ptr w 0] 48 5 .fixed) (hq : qa < H.n) (hW : H.get w = .cells [.int .i64 fr] 3 1 .fixed) :
    denF Φ5 none2 c21 [.ptr qa 0] H = some (.tup [.int .i64 fr, .bool true], H) := by
  unfold c21
  simp (maxSteps := 10000000) +contextual [go_sem, hA, hq, hW]
theorem won22_no {H : AHeap} {qa : Nat} {node term stamp fr : Int} (hA : H.get qa = .cells [.int .i64 node, .int .i64 term, .int .i64 stamp, .int .i64 fr] 130 4 .fixed) (hf : fr < 0) :
    denF Φ5 none2 c22 [.ptr qa 0] H = some (.tup [.int .i64 0, .bool false], H) := by
  unfold c22
  simp (maxSteps := 10000000) +contextual [go_sem, hA, hf]
theorem won22_yes {H : AHeap} {qa : Nat} {node term stamp fr : Int} (hA : H.get qa = .cells [.int .i64 node, .int .i64 term, .int .i64 stamp, .int .i64 fr] 130 4 .fixed) (hf : 0 ≤ fr) :
    denF Φ5 none2 c22 [.ptr qa 0] H = some (.tup [.int .i64 fr, .bool true], H) := by
  have e8 : ¬ fr < 0 := by omega
  unfold c22
  simp (maxSteps := 10000000) +contextual [go_sem, hA, e8]
theorem new17_no {H : AHeap} {node term stamp : Int} (h : (mayN node term && inL stamp) = false) :
    denF Φ5 none2 c17 [.int .i64 node, .int .i64 term, .int .i64 stamp] H = some (.tup [.nilp, .int .i64 2], H) := by
  unfold c17
  cases h1 : mayN node term <;> cases h2 : inL stamp <;> simp [h1, h2] at h
  all_goals simp (maxSteps := 10000000) +contextual [go_sem, p5_71, p5_72, rMay, rIn, h1, h2]
theorem new17_yes {H : AHeap} {node term stamp : Int} (h : (mayN node term && inL stamp) = true) :
    denF Φ5 none2 c17 [.int .i64 node, .int .i64 term, .int .i64 stamp] H = some (.tup [.ptr H.n 0, .int .i64 0], H.push (.cells [.bool true, .int .i64 node, .int .i64 term, .int .i64 stamp, .nilp] 48 5 .fixed)) := by
  simp only [Bool.and_eq_true] at h
  unfold c17
  simp (maxSteps := 10000000) +contextual [go_sem, p5_71, p5_72, rMay, rIn, h.1, h.2]
theorem new18_no {H : AHeap} {node term stamp : Int} (h : (mayN node term && inL stamp) = false) :
    denF Φ5 none2 c18 [.int .i64 node, .int .i64 term, .int .i64 stamp] H = some (.tup [.nilp, .int .i64 2], H) := by
  unfold c18
  by_cases a : node < 0
  · simp (maxSteps := 10000000) +contextual [go_sem, p5_73, p5_74, rIn, a]
  by_cases b : 1 < node
  · simp (maxSteps := 10000000) +contextual [go_sem, p5_73, p5_74, rIn, a, b]
  have hn : node = 0 ∨ node = 1 := by omega
  have : (inL term && inL stamp) = false := by rcases hn with rfl | rfl <;> simpa [mayN] using h
  cases h1 : inL term <;> cases h2 : inL stamp <;> simp [h1, h2] at this
  all_goals simp (maxSteps := 10000000) +contextual [go_sem, p5_73, p5_74, rIn, a, b, h1, h2]
theorem new18_yes {H : AHeap} {node term stamp : Int} (h : (mayN node term && inL stamp) = true) :
    denF Φ5 none2 c18 [.int .i64 node, .int .i64 term, .int .i64 stamp] H = some (.tup [.ptr H.n 0, .int .i64 0], H.push (.cells [.int .i64 node, .int .i64 term, .int .i64 stamp, .int .i64 (-1)] 130 4 .fixed)) := by
  simp only [Bool.and_eq_true, mayN, Bool.or_eq_true, decide_eq_true_eq] at h
  have a : ¬ node < 0 := by omega
  have b : ¬ 1 < node := by omega
  unfold c18
  simp (maxSteps := 10000000) +contextual [go_sem, p5_73, p5_74, rIn, a, b, h.1.2, h.2]
def Φ6 : Phi := updP (updP (updP (updP (updP (updP (updP (Φ5) 15 (denF none2 none2 c15)) 17 (denF Φ5 none2 c17)) 18 (denF Φ5 none2 c18)) 19 (denF Φ4 none2 c19)) 20 (denF Φ5 none2 c20)) 21 (denF Φ5 none2 c21)) 22 (denF Φ5 none2 c22)
theorem ok6 : ∀ f, Sound Try.prog f (Φ6 f) := updP_ok (updP_ok (updP_ok (updP_ok (updP_ok (updP_ok (updP_ok (ok5) (fun_sound none_sound none_soundD mixed Try.func15 cal15 comp15)) (fun_sound ok5 none_soundD mixed Try.func17 cal17 comp17)) (fun_sound ok5 none_soundD mixed Try.func18 cal18 comp18)) (fun_sound ok4 none_soundD mixed Try.func19 cal19 comp19)) (fun_sound ok5 none_soundD mixed Try.func20 cal20 comp20)) (fun_sound ok5 none_soundD mixed Try.func21 cal21 comp21)) (fun_sound ok5 none_soundD mixed Try.func22 cal22 comp22)
theorem p6_15 (l : List AVal) (H : AHeap) : Φ6 15 l H = denF none2 none2 c15 l H := (rfl)
theorem p6_17 (l : List AVal) (H : AHeap) : Φ6 17 l H = denF Φ5 none2 c17 l H := (rfl)
theorem p6_18 (l : List AVal) (H : AHeap) : Φ6 18 l H = denF Φ5 none2 c18 l H := (rfl)
theorem p6_19 (l : List AVal) (H : AHeap) : Φ6 19 l H = denF Φ4 none2 c19 l H := (rfl)
theorem p6_20 (l : List AVal) (H : AHeap) : Φ6 20 l H = denF Φ5 none2 c20 l H := (rfl)
theorem p6_21 (l : List AVal) (H : AHeap) : Φ6 21 l H = denF Φ5 none2 c21 l H := (rfl)
theorem p6_22 (l : List AVal) (H : AHeap) : Φ6 22 l H = denF Φ5 none2 c22 l H := (rfl)
theorem p6_16 (l : List AVal) (H : AHeap) : Φ6 16 l H = pspec rTrue16 l H := (rfl)
/-- The messages of a slice. -/
def Msgs (H : AHeap) (b o n : Nat) (f : Nat → Msg) : Prop := ∃ L e es md, H.get b = .cells L e es md ∧ o + n * 12 ≤ L.length ∧ ∀ i, i < n → (L.drop (o + i * 12)).take 12 = (f i).cs
theorem Msgs.mono {H H' : AHeap} {b o n : Nat} {f : Nat → Msg} (h : Msgs H b o n f) (e : H'.get b = H.get b) : Msgs H' b o n f := by
  obtain ⟨L, t, es, md, h1, h2⟩ := h
  exact ⟨L, t, es, md, by rw [e]; exact h1, h2⟩
theorem Msgs.at {L : List AVal} {o n : Nat} {f : Nat → Msg} (h : ∀ i, i < n → (L.drop (o + i * 12)).take 12 = (f i).cs) {i j : Nat} (hi : i < n) (hj : j < 12) : L[o + i * 12 + j]? = (f i).cs[j]? := by
  rw [← h i hi, List.getElem?_take, if_pos hj, List.getElem?_drop]
theorem step15 {H : AHeap} {b o n i : Nat} {c : Option Nat} {f : Nat → Msg} (hM : Msgs H b o n f) (hi : i < n) (hn : n ≤ 9223372036854775807) :
    aden none2 b15_0 ⟨[(0, .sl b o n c), (3, .int .i64 i)], H, []⟩ = if (100 : Int) < (f i).dn then some (.ret, ⟨[(2, .bool true)], H, []⟩) else some (.normal, ⟨[(0, .sl b o n c), (3, .int .i64 (i + 1 : Nat))], H, []⟩) := by
  obtain ⟨L, e, es, md, hb, hl, hf⟩ := hM
  have hx : L[o + i * 12 + 11]? = some (.raw (.slice (f i).da (f i).dn (f i).dc)) := by rw [Msgs.at hf hi (by omega)]; rfl
  have hw : IntKind.i64.wrap ((i : Int) + 1) = ((i : Int) + 1) := by rw [IntKind.wrap_i64]; omega
  have h1 : (i : Int) < (n : Int) := by omega
  unfold b15_0
  simp (maxSteps := 10000000) +contextual [go_sem, hb, hi, h1, hx, hw]
theorem last15 {H : AHeap} {b o n : Nat} {c : Option Nat} :
    aden none2 b15_0 ⟨[(0, .sl b o n c), (3, .int .i64 n)], H, []⟩ = some (.exit 0, ⟨[(0, .sl b o n c), (3, .int .i64 n), (7, .bool false)], H, []⟩) := by
  unfold b15_0
  simp (maxSteps := 10000000) +contextual [go_sem]
theorem loop15 {H : AHeap} {b o n : Nat} {c : Option Nat} {f : Nat → Msg} (hM : Msgs H b o n f) (hn : n ≤ 9223372036854775807) : ∀ (k i : Nat), i + k = n →
    iter (aden none2 b15_0) (k + 1) ⟨[(0, .sl b o n c), (3, .int .i64 i)], H, []⟩ = some (.ret, ⟨[(2, .bool true)], H, []⟩) ∨
    iter (aden none2 b15_0) (k + 1) ⟨[(0, .sl b o n c), (3, .int .i64 i)], H, []⟩ = some (.exit 0, ⟨[(0, .sl b o n c), (3, .int .i64 n), (7, .bool false)], H, []⟩) := by
  intro k
  induction k with
  | zero =>
    intro i hi
    have hi' : i = n := by omega
    subst hi'
    exact .inr (by rw [iter_succ, last15]; rfl)
  | succ k ih =>
    intro i hi
    have hs := step15 (c := c) hM (show i < n by omega) hn
    by_cases h : (100 : Int) < (f i).dn
    · rw [if_pos h] at hs
      exact .inl (by rw [iter_succ, hs, iterK_r])
    · rw [if_neg h] at hs
      rw [iter_succ, hs, iterK_n]
      exact ih (i + 1) (by omega)
theorem long15 {H : AHeap} {b o n : Nat} {c : Option Nat} {f : Nat → Msg} (hM : Msgs H b o n f) (hn : n ≤ 9223372036854775807) :
    ∃ r, denF none2 none2 c15 [.sl b o n c] H = some (.bool r, H) ∧ (r = false → n ≤ 60) := by
  have hl := loop15 (c := c) hM hn n 0 (by omega)
  rw [show ((0 : Nat) : Int) = 0 from rfl] at hl
  rcases hl with h | h
  · have h := iter_mono h (show n + 1 ≤ fuel by unfold fuel; omega)
    refine ⟨true, ?_, by simp⟩
    unfold c15
    simp (maxSteps := 10000000) +contextual [go_sem, h]
  · have h := iter_mono h (show n + 1 ≤ fuel by unfold fuel; omega)
    by_cases h6 : (60 : Int) < n
    · refine ⟨true, ?_, by simp⟩
      unfold c15
      simp (maxSteps := 10000000) +contextual [go_sem, h, h6]
    · refine ⟨false, ?_, fun _ => by omega⟩
      unfold c15
      simp (maxSteps := 10000000) +contextual [go_sem, h, h6]
theorem nil15 {H : AHeap} : denF none2 none2 c15 [.nils] H = some (.bool false, H) := by
  have h : iter (aden none2 b15_0) (0 + 1) ⟨[(0, .nils), (3, .int .i64 0)], H, []⟩ = some (.exit 0, ⟨[(0, .nils), (3, .int .i64 0), (7, .bool false)], H, []⟩) := by
    rw [iter_succ]
    unfold b15_0
    simp (maxSteps := 10000000) +contextual [go_sem]
  have h := iter_mono h (show 0 + 1 ≤ fuel by unfold fuel; omega)
  unfold c15
  simp (maxSteps := 10000000) +contextual [go_sem, h]
/-- What holds ahead of each round. -/
structure JR (H : AHeap) (b o n : Nat) (f : Nat → Msg) (qa qb : Nat) (node term stamp fr : Int) (first : AVal) : Prop where
  ms : Msgs H b o n f
  hb : b < H.n
  ha : qa < H.n
  hq : qb < H.n
  ba : b ≠ qa
  bq : b ≠ qb
  aq : qa ≠ qb
  A : H.get qa = .cells [.bool true, .int .i64 node, .int .i64 term, .int .i64 stamp, first] 48 5 .fixed
  B : H.get qb = .cells [.int .i64 node, .int .i64 term, .int .i64 stamp, .int .i64 fr] 130 4 .fixed
  F : (first = .nilp ∧ fr = -1) ∨ ∃ w, first = .ptr w 0 ∧ w < H.n ∧ w ≠ qa ∧ w ≠ qb ∧ H.get w = .cells [.int .i64 fr] 3 1 .fixed ∧ 0 ≤ fr
theorem JR.push {H : AHeap} {b o n : Nat} {f : Nat → Msg} {qa qb : Nat} {node term stamp fr : Int} {first : AVal} (J : JR H b o n f qa qb node term stamp fr first) (x : ABlk) : JR (H.push x) b o n f qa qb node term stamp fr first := by
  obtain ⟨ms, hb, ha, hq, ba, bq, aq, A, B, F⟩ := J
  have e : ∀ y, y < H.n → (H.push x).get y = H.get y := fun y hy => by rw [AHeap.get_push, if_neg (by omega)]
  refine ⟨ms.mono (e b hb), by simp; omega, by simp; omega, by simp; omega, ba, bq, aq, by rw [e _ ha]; exact A, by rw [e _ hq]; exact B, ?_⟩
  rcases F with h | ⟨w, h1, h2, h3, h4, h5, h6⟩
  · exact .inl h
  · exact .inr ⟨w, h1, by simp; omega, h3, h4, by rw [e _ h2]; exact h5, h6⟩
theorem won6 {H : AHeap} {b o n : Nat} {f : Nat → Msg} {qa qb : Nat} {node term stamp fr : Int} {first : AVal} (J : JR H b o n f qa qb node term stamp fr first) :
    ∃ x y, denF Φ5 none2 c21 [.ptr qa 0] H = some (.tup [.int .i64 x, .bool y], H) ∧ denF Φ5 none2 c22 [.ptr qb 0] H = some (.tup [.int .i64 x, .bool y], H) := by
  obtain ⟨ms, hb, ha, hq, ba, bq, aq, A, B, F⟩ := J
  rcases F with ⟨rfl, rfl⟩ | ⟨w, rfl, h2, h3, h4, h5, h6⟩
  · exact ⟨0, false, won21_no A ha, won22_no B (by omega)⟩
  · exact ⟨fr, true, won21_yes A ha h5, won22_yes B h6⟩
theorem hear6 {H : AHeap} {b o n : Nat} {f : Nat → Msg} {qa qb : Nat} {node term stamp fr : Int} {first : AVal} (J : JR H b o n f qa qb node term stamp fr first) (m : Msg) :
    ∃ x y H1 H2 fr' first', denF Φ4 none2 c19 [.ptr qa 0, .agg m.cs] H = some (.tup [.int .i64 x, .int .i64 y], H1) ∧ Msgs H1 b o n f ∧ denF Φ5 none2 c20 [.ptr qb 0, .agg m.cs] H1 = some (.tup [.int .i64 x, .int .i64 y], H2) ∧ JR H2 b o n f qa qb node term stamp fr' first' := by
  have J1 := J.push (.cells m.cs 39 12 .fixed)
  have J2 := J1.push (.cells m.cs 39 12 .fixed)
  cases hg : good node 2 m with
  | false => exact ⟨_, _, _, _, _, _, hear19_bad J.A J.ha m hg, J1.ms, hear20_bad J1.B J1.hq m hg, J2⟩
  | true =>
    cases hh : hit term stamp m with
    | false => exact ⟨_, _, _, _, _, _, hear19_miss J.A J.ha m hg hh, J1.ms, hear20_miss J1.B J1.hq m hg hh, J2⟩
    | true =>
      rcases J.F with ⟨rfl, rfl⟩ | ⟨w, rfl, h2, h3, h4, h5, h6⟩
      · obtain ⟨H1, e1, e2, e3, e4, e5⟩ := hear19_first J.A J.ha m hg hh
        have hB : H1.get qb = _ := (e3 _ J.hq (Ne.symm J.aq)).trans J.B
        have hq1 : qb < H1.n := by have := J.hq; omega
        have hm : Msgs H1 b o n f := J.ms.mono (e3 _ J.hb J.ba)
        have hfr : 0 ≤ m.fr := by
          have := (good_eq hg).2.1
          simp only [fromL, Bool.and_eq_true, decide_eq_true_eq] at this
          exact this.1.1
        have hb := J.hb
        have ha := J.ha
        have hq := J.hq
        have n1 : ¬ b = H1.n := by omega
        have n2 : ¬ qa = H1.n := by omega
        have n3 : ¬ qb = H1.n := by omega
        have n4 : ¬ H.n + 1 = H1.n := by omega
        have n5 : ¬ H.n + 1 = qb := by omega
        refine ⟨_, _, H1, _, m.fr, .ptr (H.n + 1) 0, e1, hm, hear20_first hB hq1 m hg hh (by omega), ?_⟩
        exact ⟨hm.mono (by rw [AHeap.get_set, if_neg J.bq, AHeap.get_push, if_neg n1]), by simp; omega, by simp; omega, by simp; omega, J.ba, J.bq, J.aq, by rw [AHeap.get_set, if_neg J.aq, AHeap.get_push, if_neg n2]; exact e4, by rw [AHeap.get_set, if_pos rfl], .inr ⟨_, rfl, by simp; omega, by omega, by omega, by rw [AHeap.get_set, if_neg n5, AHeap.get_push, if_neg n4]; exact e5, hfr⟩⟩
      · exact ⟨_, _, _, _, _, _, hear19_late J.A J.ha m hg hh, J1.ms, hear20_late J1.B J1.hq m hg hh h6, J2⟩
theorem stepR {H : AHeap} {b o n i : Nat} {c : Option Nat} {f : Nat → Msg} {qa qb : Nat} {node term stamp fr : Int} {first : AVal} (J : JR H b o n f qa qb node term stamp fr first) (hi : i < n) (hn : n ≤ 60) :
    ∃ H' fr' first', JR H' b o n f qa qb node term stamp fr' first' ∧ aden Φ6 b3_0 ⟨[(3, .sl b o n c), (9, .ptr qa 0), (11, .ptr qb 0), (13, .int .i64 i)], H, []⟩ = some (.normal, ⟨[(3, .sl b o n c), (9, .ptr qa 0), (11, .ptr qb 0), (13, .int .i64 (i + 1 : Nat))], H', []⟩) := by
  obtain ⟨x, y, H1, H2, fr', first', e1, M1, e2, J2⟩ := hear6 J (f i)
  obtain ⟨u, v, e3, e4⟩ := won6 J2
  refine ⟨H2, fr', first', J2, ?_⟩
  obtain ⟨L, e, es, md, hb, hl, hf⟩ := J.ms
  obtain ⟨L', e', es', md', hb', hl', hf'⟩ := M1
  have hx := hf i hi
  have hx' := hf' i hi
  have hle : o + i * 12 + 12 ≤ L.length := by omega
  have hle' : o + i * 12 + 12 ≤ L'.length := by omega
  have hw : IntKind.i64.wrap ((i : Int) + 1) = ((i : Int) + 1) := by rw [IntKind.wrap_i64]; omega
  have h1 : (i : Int) < (n : Int) := by omega
  unfold b3_0
  simp (maxSteps := 10000000) +contextual [go_sem, hb, hb', hi, h1, hx, hx', hle, hle', hw, p6_19, p6_20, p6_21, p6_22, e1, e2, e3, e4]
theorem lastR {H : AHeap} {b o n qa qb : Nat} {c : Option Nat} :
    aden Φ6 b3_0 ⟨[(3, .sl b o n c), (9, .ptr qa 0), (11, .ptr qb 0), (13, .int .i64 n)], H, []⟩ = some (.exit 0, ⟨[(3, .sl b o n c), (9, .ptr qa 0), (11, .ptr qb 0), (13, .int .i64 n), (54, .bool false)], H, []⟩) := by
  unfold b3_0
  simp (maxSteps := 10000000) +contextual [go_sem]
theorem loopR {b o n : Nat} {c : Option Nat} {f : Nat → Msg} {qa qb : Nat} {node term stamp : Int} (hn : n ≤ 60) : ∀ (k i : Nat), i + k = n → ∀ {H : AHeap} {fr : Int} {first : AVal}, JR H b o n f qa qb node term stamp fr first →
    ∃ H', iter (aden Φ6 b3_0) (k + 1) ⟨[(3, .sl b o n c), (9, .ptr qa 0), (11, .ptr qb 0), (13, .int .i64 i)], H, []⟩ = some (.exit 0, ⟨[(3, .sl b o n c), (9, .ptr qa 0), (11, .ptr qb 0), (13, .int .i64 n), (54, .bool false)], H', []⟩) := by
  intro k
  induction k with
  | zero =>
    intro i hi H fr first J
    have hi' : i = n := by omega
    subst hi'
    exact ⟨H, by rw [iter_succ, lastR]; rfl⟩
  | succ k ih =>
    intro i hi H fr first J
    obtain ⟨H1, fr', first', J', hs⟩ := stepR (c := c) J (show i < n by omega) hn
    obtain ⟨H2, h2⟩ := ih (i + 1) (by omega) J'
    exact ⟨H2, by rw [iter_succ, hs, iterK_n]; exact h2⟩
theorem law3 {H : AHeap} {b o n : Nat} {c : Option Nat} {f : Nat → Msg} {node term stamp : Int} (hM : Msgs H b o n f) (hb : b < H.n) (hn : n ≤ 9223372036854775807) :
    ∃ H', denF Φ6 none2 c3 [.int .i64 node, .int .i64 term, .int .i64 stamp, .sl b o n c] H = some (.bool true, H') := by
  obtain ⟨r, hr, hr2⟩ := long15 (c := c) hM hn
  cases r with
  | true =>
    refine ⟨H, ?_⟩
    unfold c3
    simp (maxSteps := 10000000) +contextual [go_sem, p6_15, p6_16, rTrue16, hr]
  | false =>
    cases hg : mayN node term && inL stamp with
    | false =>
      refine ⟨H, ?_⟩
      unfold c3
      simp (maxSteps := 10000000) +contextual [go_sem, p6_15, p6_16, p6_17, p6_18, rTrue16, hr, new17_no hg, new18_no hg]
    | true =>
      have n1 : ¬ b = H.n := by omega
      have n2 : ¬ b = H.n + 1 := by omega
      have J : JR ((H.push (.cells [.bool true, .int .i64 node, .int .i64 term, .int .i64 stamp, .nilp] 48 5 .fixed)).push (.cells [.int .i64 node, .int .i64 term, .int .i64 stamp, .int .i64 (-1)] 130 4 .fixed)) b o n f H.n (H.n + 1) node term stamp (-1) .nilp :=
        ⟨hM.mono (by simp [AHeap.get_push, n1, n2]), by simp; omega, by simp; omega, by simp, by omega, by omega, by omega, by simp [AHeap.get_push], by simp [AHeap.get_push], .inl ⟨rfl, rfl⟩⟩
      obtain ⟨H', h⟩ := loopR (c := c) (hr2 rfl) n 0 (by omega) J
      rw [show ((0 : Nat) : Int) = 0 from rfl] at h
      have h := iter_mono h (show n + 1 ≤ fuel by unfold fuel; omega)
      refine ⟨H', ?_⟩
      unfold c3
      simp (maxSteps := 10000000) +contextual [go_sem, p6_15, p6_16, p6_17, p6_18, rTrue16, hr, new17_yes hg, new18_yes hg, h]
theorem law3n {H : AHeap} {node term stamp : Int} :
    ∃ H', denF Φ6 none2 c3 [.int .i64 node, .int .i64 term, .int .i64 stamp, .nils] H = some (.bool true, H') := by
  cases hg : mayN node term && inL stamp with
  | false =>
    refine ⟨H, ?_⟩
    unfold c3
    simp (maxSteps := 10000000) +contextual [go_sem, p6_15, p6_16, p6_17, p6_18, rTrue16, nil15, new17_no hg, new18_no hg]
  | true =>
    have h : ∀ G, iter (aden Φ6 b3_0) (0 + 1) ⟨[(3, .nils), (9, .ptr H.n 0), (11, .ptr (H.n + 1) 0), (13, .int .i64 0)], G, []⟩ = some (.exit 0, ⟨[(3, .nils), (9, .ptr H.n 0), (11, .ptr (H.n + 1) 0), (13, .int .i64 0), (54, .bool false)], G, []⟩) := by
      intro G
      rw [iter_succ]
      unfold b3_0
      simp (maxSteps := 10000000) +contextual [go_sem]
    have h := fun G => iter_mono (h G) (show 0 + 1 ≤ fuel by unfold fuel; omega)
    refine ⟨(H.push (.cells [.bool true, .int .i64 node, .int .i64 term, .int .i64 stamp, .nilp] 48 5 .fixed)).push (.cells [.int .i64 node, .int .i64 term, .int .i64 stamp, .int .i64 (-1)] 130 4 .fixed), ?_⟩
    unfold c3
    simp (maxSteps := 10000000) +contextual [go_sem, p6_15, p6_16, p6_17, p6_18, rTrue16, nil15, new17_yes hg, new18_yes hg, h]
theorem s3 : Sound Try.prog 3 (denF Φ6 none2 c3) := fun_sound ok6 none_soundD mixed Try.func3 cal3 comp3
end Go.Eng.SeatB
