/- The engine, eleventh part: operations that make blocks are sound. -/
import Derived.Test.YtgmaknppneonfaaEngJ
set_option linter.unusedSimpArgs false
set_option linter.unusedVariables false
namespace Go.Eng
variable {P : Program}

/-- What an operation that makes a block comes to. -/
def Makes (P : Program) (a : Act) (o : Oper) (E : Env) (blk : ABlk) (f : Nat → AVal) (w : World) : Prop :=
  ∃ x w' obj l, (execOp a.eval o).run P w = .ok (.value x) w' ∧ WNew w w' obj ∧ l.blk = w.heap.size ∧ ∀ E' id, E.le E' → E' id = some l → cv E' (f id) = some x ∧ BRel E' l (some obj) blk

theorem cvs_replicate {E : Env} {z : List AVal} {zs : List Value} (h : cvs E z = some zs) : ∀ n, cvs E (repeatA n z) = some (List.replicate n zs).flatten
  | 0 => rfl
  | n + 1 => by
    simp only [repeatA, List.replicate_succ, List.flatten_cons]
    exact cvs_append h (cvs_replicate h n)
theorem range_mod (zero : Array Value) (s : Nat) (hs : zero.size = s) : ∀ n, ((Array.range (n * s)).map fun i => zero[i % zero.size]!).toList = (List.replicate n zero.toList).flatten
  | 0 => by simp
  | n + 1 => by
    have ih := range_mod zero s hs n
    have e : (Array.range ((n + 1) * s)).toList = (Array.range (n * s)).toList ++ (List.range s).map (n * s + ·) := by
      simp only [Array.toList_range, Nat.add_mul, Nat.one_mul, List.range_add]
    rw [Array.toList_map] at ih ⊢
    rw [e, List.map_append, ih, List.replicate_succ', List.flatten_append]
    congr 1
    simp only [List.flatten_singleton, List.map_map]
    apply List.ext_getElem
    · simp [hs]
    · intro i h1 h2
      simp only [List.getElem_map, List.getElem_range, Function.comp]
      have hi : i < s := by simpa using h1
      have hmod : (n * s + i) % zero.size = i := by rw [hs, Nat.mul_comm, Nat.mul_add_mod, Nat.mod_eq_of_lt hi]
      rw [hmod]
      have : i < zero.size := by omega
      simp [this]

theorem newRow_makes {w : World} {E : Env} {elem : TypeId} {es : Nat} {cs : List AVal} {arr : Array Value} (hcs : cvs E cs = some arr.toList) (n : Nat) :
    ∃ w' , (newRow elem arr).run P w = .ok ⟨w.heap.size, 0, none⟩ w' ∧ WNew w w' (.cells arr elem (0, 0)) ∧
      ∀ E', E.le E' → BRel E' ⟨w.heap.size, arr.size, es⟩ (some (.cells arr elem (0, 0))) (.cells cs elem es .fixed) := by
  refine ⟨{ w with heap := w.heap.push (.cells arr elem (0, 0)) }, by simp [newRow], WNew.push w _ w.drawn, fun E' le => ?_⟩
  exact ⟨arr, (0, 0), arr.toList, rfl, cvs_mono le _ _ hcs, rfl, rfl, ⟨[], by simp, fun _ => rfl⟩, fun _ => .inl rfl, fun h => by simp at h⟩

set_option maxHeartbeats 4000000 in
theorem aop_sound {E : Env} {τ : Tm} {a : Act} (T : TRel E τ a.tmps) {o : Oper} {c : AOp} (hc : compOp P o.op = some (.a c)) {blk : ABlk} {f : Nat → AVal} (ha : aal τ c = some (blk, f)) (w : World) : Makes P a o E blk f w := by
  obtain ⟨dst, op, ty, pos, after, guard⟩ := o
  cases op with
  | alloc t =>
    simp only [compOp, Option.map_eq_some_iff, COp.a.injEq] at hc
    obtain ⟨z, hz, rfl⟩ := hc
    simp only [aal] at ha
    split at ha
    · simp only [Option.some.injEq, Prod.mk.injEq] at ha
      obtain ⟨rfl, rfl⟩ := ha
      obtain ⟨zv, hzr, hzc⟩ := run_zeroC hz w
      obtain ⟨w', h1, h2, h3⟩ := newRow_makes (P := P) (w := w) (E := E) (elem := t) (es := z.length) (hzc E) 0
      refine ⟨.pointer (some ⟨w.heap.size, 0, none⟩), w', _, ⟨w.heap.size, zv.cells.size, z.length⟩, ?_, h2, rfl, fun E' id le hid => ⟨by simp [cv, hid], h3 E' le⟩⟩
      simp only [execOp, Instr.alloc, Sem.run_bind, hzr, Result.andThen_ok, newVar, h1, Sem.run_pure]
    · simp at ha
  | box t x =>
    simp only [compOp, Option.bind_eq_some_iff, Option.map_eq_some_iff, COp.a.injEq] at hc
    obtain ⟨s, hs, x', hx, rfl⟩ := hc
    simp only [aal, Option.bind_eq_some_iff] at ha
    obtain ⟨v, hv, ha⟩ := ha
    split at ha
    · simp only [Option.some.injEq, Prod.mk.injEq] at ha
      obtain ⟨rfl, rfl⟩ := ha
      obtain ⟨w', h1, h2, h3⟩ := newRow_makes (P := P) (w := w) (E := E) (elem := t) (es := s) (cvs_cells (ev_sound T hx hv)) 0
      refine ⟨.pointer (some ⟨w.heap.size, 0, none⟩), w', _, ⟨w.heap.size, (a.eval x).cells.size, s⟩, ?_, h2, rfl, fun E' id le hid => ⟨by simp [cv, hid], h3 E' le⟩⟩
      simp only [execOp, Instr.box, Sem.run_bind, newVar, h1, Result.andThen_ok, Sem.run_pure]
    · simp at ha
  | buildSlice t n ps =>
    simp only [compOp] at hc
    split at hc
    · rename_i e hu
      simp only [Option.bind_eq_some_iff] at hc
      obtain ⟨z, hz, s, hs, hc⟩ := hc
      by_cases hcond : z.length = s ∧ 0 < s ∧ n * s ≤ 2 ^ 24
      case neg => rw [if_neg hcond] at hc; simp at hc
      rw [if_pos hcond] at hc
      obtain ⟨hzl, hpos, hle⟩ := hcond
      simp only [Option.map_eq_some_iff, COp.a.injEq] at hc
      obtain ⟨l, hl, rfl⟩ := hc
      simp only [aal, Option.bind_eq_some_iff] at ha
      obtain ⟨cs, hcs, ha⟩ := ha
      split at ha
      · simp only [Option.some.injEq, Prod.mk.injEq] at ha
        obtain ⟨rfl, rfl⟩ := ha
        obtain ⟨zv, hzr, hzc⟩ := run_zeroC hz w
        have hzlen : zv.cells.size = s := by have := cvs_length (hzc E); simp at this; omega
        have hinit : cvs E (repeatA n z) = some ((Array.range (n * s)).map fun i => zv.cells[i % zv.cells.size]!).toList := by
          rw [range_mod zv.cells s hzlen n]; exact cvs_replicate (hzc E) n
        obtain ⟨brr, hf, hb⟩ := fillA_sound (E := E) T hl hcs hinit
        obtain ⟨w', h1, h2, h3⟩ := newRow_makes (P := P) (w := w) (E := E) (elem := e) (es := s) hb 0
        refine ⟨.slice (some ⟨w.heap.size, 0, none⟩) n n, w', _, ⟨w.heap.size, brr.size, s⟩, ?_, h2, rfl, fun E' id le hid => ⟨by simp [cv, hid], h3 E' le⟩⟩
        simp only [execOp, Instr.buildSlice, Sem.run_bind, run_underlying hu, Result.andThen_ok, run_sizeT hs, Sem.run_ite]
        rw [if_neg (show ¬ (n * s > 2 ^ 24) by omega)]
        (try simp only [Sem.run_pure, Result.andThen_ok, Sem.run_ite])
        by_cases hn0 : n * s = 0
        · rw [if_pos hn0]
          (try simp only [Sem.run_pure, Result.andThen_ok])
          have e0 : ((Array.range (n * s)).map fun i => (#[] : Array Value)[i % (#[] : Array Value).size]!) = (Array.range (n * s)).map fun i => zv.cells[i % zv.cells.size]! := by
            simp [hn0]
          rw [e0, Array.toList_map, hf]
          simp only [Sem.run_bind, h1, Result.andThen_ok, Sem.run_pure]
        · rw [if_neg hn0]
          simp only [Sem.run_bind, hzr, Sem.run_pure, Result.andThen_ok]
          rw [Array.toList_map, hf]
          simp only [Sem.run_bind, h1, Result.andThen_ok, Sem.run_pure]
      · simp at ha
    · simp at hc
  | makeSlice t ln cp =>
    simp only [compOp] at hc
    split at hc
    · rename_i e hu
      simp only [Option.bind_eq_some_iff, Option.map_eq_some_iff, COp.a.injEq] at hc
      obtain ⟨z, hz, s, hs, by_, hby, l', hl, c', hcp, rfl⟩ := hc
      simp only [aal] at ha
      split at ha
      · rename_i l c' e1 e2
        by_cases hcond : 0 ≤ l ∧ l ≤ c' ∧ by_ * c'.toNat ≤ 2 ^ 46 ∧ c' < 2 ^ 46 ∧ z.length = s ∧ z.all AVal.isCell = true
        case neg => rw [if_neg hcond] at ha; simp at ha
        rw [if_pos hcond] at ha
        obtain ⟨k1, k2, k3, k4, k5, k6⟩ := hcond
        simp only [Option.some.injEq, Prod.mk.injEq] at ha
        obtain ⟨rfl, rfl⟩ := ha
        have hl' := ev_sound T hl e1
        have hc' := ev_sound T hcp e2
        simp only [cv, Option.some.injEq] at hl' hc'
        obtain ⟨zv, hzr, hzc⟩ := run_zeroC hz w
        have hzlen : zv.cells.size = s := by have := cvs_length (hzc E); simp at this; omega
        have hinit : cvs E (repeatA c'.toNat z) = some ((Array.range (c'.toNat * s)).map fun i => zv.cells[i % zv.cells.size]!).toList := by
          rw [range_mod zv.cells s hzlen]; exact cvs_replicate (hzc E) _
        obtain ⟨w', h1, h2, h3⟩ := newRow_makes (P := P) (w := w) (E := E) (elem := e) (es := s) hinit 0
        refine ⟨.slice (some ⟨w.heap.size, 0, none⟩) l.toNat c'.toNat, w', _, ⟨w.heap.size, _, s⟩, ?_, h2, rfl, fun E' id le hid => ⟨by simp [cv, hid], h3 E' le⟩⟩
        obtain ⟨inf, hinf, hinfb⟩ : ∃ i, P.info? e = some i ∧ i.bytes = by_ := by simpa [bytesT] using hby
        have w1 : IntKind.i64.wrap l = l := wrap_id (by omega) (by omega)
        have w2 : IntKind.i64.wrap c' = c' := wrap_id (by omega) (by omega)
        have k3' : (by_ : Int) * c' ≤ 2 ^ 46 := by
          have : (by_ : Int) * (c'.toNat : Int) ≤ 2 ^ 46 := by exact_mod_cast k3
          rwa [Int.toNat_of_nonneg (by omega)] at this
        have hbig : (((decide (c' < 0) || decide ((by_ : Int) * c' > 2 ^ 48)) || decide (l < 0)) || decide (l > c')) = false := by
          simp only [Bool.or_eq_false_iff, decide_eq_false_iff_not]; omega
        simp only [execOp, Instr.makeSlice, Sem.run_bind, run_underlying hu, Result.andThen_ok, ← hl', ← hc', asInt, asIntOf, Sem.run_pure, run_typeInfo w hinf, hinfb, w1, w2, Sem.run_ite]
        rw [if_neg (by simpa using hbig)]
        simp only [Sem.run_pure, Result.andThen_ok, run_askRoom, run_sizeT hs]
        by_cases hn0 : c'.toNat * s = 0
        · rw [if_pos hn0]
          (try simp only [Sem.run_pure, Result.andThen_ok])
          have e0 : ((Array.range (c'.toNat * s)).map fun i => (#[] : Array Value)[i % (#[] : Array Value).size]!) = (Array.range (c'.toNat * s)).map fun i => zv.cells[i % zv.cells.size]! := by
            simp [hn0]
          rw [e0, h1]; rfl
        · rw [if_neg hn0]
          simp only [Sem.run_bind, hzr, Sem.run_pure, Result.andThen_ok, h1]
      · simp at ha
    · simp at hc
  | makeMap t r =>
    simp only [compOp] at hc
    split at hc
    · rename_i k e hu
      simp only [Option.map_eq_some_iff, COp.a.injEq] at hc
      obtain ⟨r', hr, rfl⟩ := hc
      simp only [aal] at ha
      have fin : (execOp a.eval ⟨dst, .makeMap t r, ty, pos, after, guard⟩).run P w = .ok (.value (.map (some w.heap.size))) { w with heap := w.heap.push (.map #[] 0) } → blk = .map [] → f = .mp → Makes P a ⟨dst, .makeMap t r, ty, pos, after, guard⟩ E blk f w := by
        intro h e1 e2
        subst e1; subst e2
        exact ⟨_, _, _, ⟨w.heap.size, 0, 0⟩, h, WNew.push w _ w.drawn, rfl, fun E' id le hid => ⟨by simp [cv, hid], ⟨#[], 0, rfl, rfl⟩⟩⟩
      split at ha
      · rename_i er
        simp only [Option.some.injEq, Prod.mk.injEq] at ha
        rcases evo_sound T hr er with ⟨rfl, _⟩ | ⟨y, u, rfl, h, _⟩
        · exact fin (by simp [execOp, Instr.makeMap]) ha.1.symm ha.2.symm
        · simp at h
      · rename_i kk nn er
        simp only [Option.some.injEq, Prod.mk.injEq] at ha
        rcases evo_sound T hr er with ⟨_, h⟩ | ⟨y, u, rfl, h, hy⟩
        · simp at h
        · simp only [Option.some.injEq] at h; subst h
          simp only [cv, Option.some.injEq] at hy
          exact fin (by simp [execOp, Instr.makeMap, run_underlying hu, ← hy, asInt, asIntOf]) ha.1.symm ha.2.symm
      · simp at ha
    · simp at hc
  | convert s d x =>
    simp only [compOp, Option.bind_eq_some_iff] at hc
    obtain ⟨x', hx, hc⟩ := hc
    split at hc
    · simp at hc
    · simp at hc
    · split at hc <;> simp at hc
    · rename_i e h1 h2
      split at hc
      · rename_i h3
        simp only [Option.some.injEq, COp.a.injEq] at hc; subst hc
        simp only [aal] at ha
        split at ha
        · rename_i str ee
          simp only [Option.some.injEq, Prod.mk.injEq] at ha
          obtain ⟨rfl, rfl⟩ := ha
          have hx' := ev_sound T hx ee
          simp only [cv, Option.some.injEq] at hx'
          have hsz : (⟨str.toArray⟩ : ByteArray).size = str.length := by simp [ByteArray.size]
          -- the capacity that is drawn
          let cap := str.length + w.tape w.drawn (.appendCap str.length 0 e) % (2 ^ 63 - str.length)
          let arr : Array Value := (str.toArray.map fun b => Value.int .u8 b.toNat) ++ Array.replicate (cap - str.length) (.int .u8 0)
          have harr : arr.size = cap := by simp [arr, cap]
          refine ⟨.slice (some ⟨w.heap.size, 0, none⟩) str.length cap, { w with heap := w.heap.push (.cells arr e (cap, cap + 1)), drawn := w.drawn + 1 }, .cells arr e (cap, cap + 1), ⟨w.heap.size, cap, 1⟩, ?_, WNew.push w _ _, rfl, fun E' id le hid => ⟨?_, ?_⟩⟩
          · simp only [execOp, convert, Sem.run_bind, run_underlying h1, run_underlying h2, Result.andThen_ok, ← hx', run_underlying h3, Conv.stringToBytes, run_choose, Question.forced, Bool.false_eq_true, if_false, Question.cut, hsz, newRow, run_newObj, Sem.run_pure]
            simp only [markStringish, Sem.run_bind, run_shape, World.shape?, Array.getElem?_push_size, Result.andThen_ok, run_freeze]
            have e1 : ((Array.map (fun b => Value.int IntKind.u8 ↑(UInt8.toNat b)) str.toArray) ++ Array.replicate (str.length + w.tape w.drawn (Question.appendCap str.length 0 e) % (2 ^ 63 - str.length) - str.length) (Value.int IntKind.u8 0)) = arr := rfl
            rw [e1]
            simp only [World.freeze, harr]
            rw [if_neg (by decide)]
            simp only [Sem.run_pure, Result.andThen_ok, Result.ok.injEq, true_and, cap]
            congr 1
            apply Array.ext_getElem?
            intro i
            simp only [Array.getElem?_modify, Array.getElem?_push]
            by_cases hi : i = w.heap.size
            · subst hi; simp
            · simp [hi, Ne.symm hi]
          · simp [cv, hid]
          · refine ⟨arr, (cap, cap + 1), str.map fun b => Value.int .u8 b.toNat, rfl, ?_, harr.symm, rfl, ⟨List.replicate (cap - str.length) (.int .u8 0), by simp [arr], fun h => absurd rfl h⟩, fun _ => .inr (by simp [harr]), fun _ => by decide⟩
            have : ∀ l : List UInt8, cvs E' (l.map fun c => AVal.int .u8 c.toNat) = some (l.map fun b => Value.int .u8 b.toNat) := by
              intro l; induction l with
              | nil => rfl
              | cons c l ih => simp [cvs, cv, ih]
            exact this str
        · simp at ha
      · simp at hc
    · simp at hc
  | call cl =>
    simp only [compOp, Option.bind_eq_some_iff] at hc
    obtain ⟨l, hl, hc⟩ := hc
    obtain ⟨callee, args, argTypes⟩ := cl
    cases callee with
    | value x =>
      cases x with
      | func f => simp only [] at hc; split at hc <;> simp at hc
      | _ => simp only [Option.map_eq_some_iff] at hc; obtain ⟨_, _, hc⟩ := hc; simp at hc
    | invoke x n => simp only [Option.map_eq_some_iff] at hc; obtain ⟨_, _, hc⟩ := hc; simp at hc
    | builtin bt =>
      unfold compBuiltin at hc
      simp only [] at hc
      split at hc
      all_goals
        first
          | (simp at hc; done)
          | (simp only [Option.bind_eq_some_iff] at hc
             obtain ⟨t, ht, hc⟩ := hc
             try (obtain ⟨u, hu, hc⟩ := hc)
             split at hc <;> (try simp only [Option.bind_eq_some_iff, Option.map_eq_some_iff, reduceCtorEq, Option.some.injEq] at hc) <;> (try (obtain ⟨_, _, hc⟩ := hc)) <;> (try (obtain ⟨_, _, hc⟩ := hc)) <;> (try (obtain ⟨_, _, hc⟩ := hc)) <;> (try (split at hc)) <;> (try simp at hc))
  | binOp op t x y ty' =>
    simp only [compOp, Option.bind_eq_some_iff] at hc
    obtain ⟨_, _, _, _, hc⟩ := hc
    split at hc
    · simp only [compEq] at hc; split at hc <;> simp at hc
    · simp only [compEq] at hc; split at hc <;> simp at hc
    · simp at hc
  | build t ps => simp only [compOp] at hc; (repeat' split at hc) <;> simp [Option.bind_eq_some_iff] at hc
  | store t x y => simp [compOp, Option.bind_eq_some_iff] at hc
  | pick x y z => simp [compOp, Option.bind_eq_some_iff] at hc
  | makeFunc _ _ _ => simp [compOp, Option.bind_eq_some_iff] at hc
  | makeInterface _ _ => simp only [compOp] at hc; split at hc <;> simp at hc
  | fieldAddr _ _ _ => simp only [compOp] at hc; split at hc <;> simp only [Option.bind_eq_some_iff, reduceCtorEq] at hc; obtain ⟨_, _, _, _, hc⟩ := hc; split at hc <;> simp at hc
  | field _ _ _ => simp only [compOp] at hc; split at hc <;> simp [Option.bind_eq_some_iff] at hc
  | indexAddr _ _ _ => simp only [compOp, Option.bind_eq_some_iff] at hc; obtain ⟨_, _, _, _, hc⟩ := hc; split at hc <;> simp at hc
  | index _ _ _ => simp only [compOp, Option.bind_eq_some_iff] at hc; obtain ⟨_, _, _, _, hc⟩ := hc; split at hc <;> simp [Option.bind_eq_some_iff] at hc
  | defer cl =>
    simp only [compOp, Option.bind_eq_some_iff] at hc
    obtain ⟨_, _, hc⟩ := hc
    split at hc <;> simp [Option.bind_eq_some_iff] at hc
  | insert _ _ _ _ => simp only [compOp] at hc; split at hc <;> simp [Option.bind_eq_some_iff] at hc
  | mapUpdate _ _ _ _ => simp only [compOp] at hc; split at hc <;> simp [Option.bind_eq_some_iff] at hc
  | lookup _ _ _ _ => simp only [compOp] at hc; split at hc <;> simp [Option.bind_eq_some_iff] at hc
  | load t x => simp only [compOp, Option.bind_eq_some_iff] at hc; obtain ⟨_, _, hc⟩ := hc; (repeat' split at hc) <;> simp at hc
  | slice t x lo hi mx =>
    cases mx with
    | some m =>
      cases hi with
      | none => simp [compOp] at hc
      | some hi =>
        simp only [compOp, Option.bind_eq_some_iff] at hc
        obtain ⟨_, _, _, _, _, _, _, _, hc⟩ := hc
        split at hc
        · simp only [Option.map_eq_some_iff] at hc; obtain ⟨_, _, hc⟩ := hc; simp at hc
        · simp at hc
    | none =>
      simp only [compOp, Option.bind_eq_some_iff] at hc
      obtain ⟨_, _, _, _, _, _, hc⟩ := hc
      split at hc <;> simp at hc
  | _ => simp [compOp] at hc
end Go.Eng
