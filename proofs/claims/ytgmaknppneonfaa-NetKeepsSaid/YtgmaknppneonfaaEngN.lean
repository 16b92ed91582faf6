/- The engine, fourteenth part: each operation that writes is sound. -/
import Derived.Test.YtgmaknppneonfaaEngM
set_option linter.unusedSimpArgs false
set_option linter.unusedVariables false
namespace Go.Eng
variable {P : Program}

theorem cvs_two {E : Env} {x y : AVal} {l : List Value} (h : cvs E [x, y] = some l) : ∃ a b, l = [a, b] ∧ cv E x = some a ∧ cv E y = some b := by
  simp only [cvs, Option.bind_eq_some_iff, Option.map_eq_some_iff, Option.some.injEq] at h
  obtain ⟨a, ha, y', ⟨b, hb, c, rfl, rfl⟩, rfl⟩ := h
  exact ⟨a, b, rfl, ha, hb⟩

theorem copy_sound {E : Env} {H H' : AHeap} {w : World} (R : Rel E H w) {ts : Array TypeId} {t e : TypeId} (ht : ts[0]? = some t) (htd : P.underlying t = some (.slice e)) {es : Nat} (hs : sizeT P e = some es) {x y v : AVal} {xv yv : Value} (hx : cv E x = some xv) (hy : cv E y = some yv)
    (h : copyA H es x y = some (v, H')) (ty : TypeId) :
    ∃ q w' , (Builtin.copy_ ts ty #[xv, yv]).run P w = .ok q w' ∧ Ext E H w E H' w' ∧ Rel E H' w' ∧ cv E v = some q := by
  simp only [copyA, Option.bind_eq_some_iff] at h
  obtain ⟨d, hd, n, hn, new, hnew, h⟩ := h
  by_cases hl : new.length = Nat.min n d * es
  case neg => rw [if_neg hl] at h; simp at h
  rw [if_pos hl] at h
  have hlen := lenA_sound (P := P) hy hn w
  obtain ⟨narr, hnr, hnc⟩ := srcCells_sound (P := P) R hy hn (Nat.min_le_left n d) hnew
  cases x with
  | nils =>
    simp only [cv, Option.some.injEq] at hx; subst hx
    simp only [Option.some.injEq, Prod.mk.injEq] at h
    obtain ⟨rfl, rfl⟩ := h
    simp only [lenA, Option.some.injEq] at hd; subst hd
    refine ⟨.int .i64 0, w, ?_, Ext.refl E H w, R, rfl⟩
    simp only [Builtin.copy_, ht, List.getElem?_toArray, List.getElem?_cons_zero, List.getElem?_cons_succ, Sem.run_bind, run_underlying htd, Result.andThen_ok, hlen, run_sizeT hs, Sem.run_pure, hnr, goInt]
    simp [Nat.min_def]
  | sl b o k c =>
    simp only [lenA, Option.some.injEq] at hd; subst hd
    simp only [Option.map_eq_some_iff, Prod.mk.injEq] at h
    obtain ⟨H1, hst, rfl, rfl⟩ := h
    have : ∃ l cc, E b = some l ∧ xv = .slice (some ⟨l.blk, o, none⟩) k cc := by
      cases c <;> (simp only [cv, Option.map_eq_some_iff] at hx; obtain ⟨l, hl, hx⟩ := hx; exact ⟨l, _, hl, hx.symm⟩)
    obtain ⟨l, cc, hl', rfl⟩ := this
    obtain ⟨w', h1, h2, h3⟩ := store_sound (P := P) R hl' hnc hst
    refine ⟨.int .i64 (Nat.min n k), w', ?_, h3, h2, rfl⟩
    simp only [Builtin.copy_, ht, List.getElem?_toArray, List.getElem?_cons_zero, List.getElem?_cons_succ, Sem.run_bind, run_underlying htd, Result.andThen_ok, hlen, run_sizeT hs, Sem.run_pure, hnr, h1, goInt]
  | _ => simp at h

theorem zeroCells_eq (zero : Array Value) (n : Nat) : (Builtin.zeroCells zero n).toList = (List.replicate n zero.toList).flatten := by
  unfold Builtin.zeroCells
  exact range_mod zero zero.size rfl n

set_option maxHeartbeats 4000000 in
theorem xop_sound {E : Env} {H H' : AHeap} {w : World} (R : Rel E H w) {τ : Tm} {a : Act} (T : TRel E τ a.tmps) {o : Oper} {c : XOp} (hc : compOp P o.op = some (.x c)) (hnc : ∀ f l, c ≠ .callF f l) (hnv : ∀ f l, c ≠ .callV f l) (hnd : ∀ f l, c ≠ .deferV f l) {Φ : Phi} {ds ds' : Dfs} {v : AVal}
    (ha : axo Φ τ H ds c = some (v, H', ds')) (hF : Fresh E H.n H'.n) : Writes P a o E H w v H' ∧ ds' = ds := by
  obtain ⟨dst, op, ty, pos, after, guard⟩ := o
  cases op with
  | store t x y =>
    simp only [compOp, Option.bind_eq_some_iff, Option.map_eq_some_iff, COp.x.injEq] at hc
    obtain ⟨x', hx, y', hy, s, hs, rfl⟩ := hc
    simp only [axo] at ha
    split at ha
    · rename_i b off ee
      simp only [Option.bind_eq_some_iff] at ha
      obtain ⟨u, hu, ha⟩ := ha
      by_cases hsz : u.cells.length = s
      case neg => rw [if_neg hsz] at ha; simp at ha
      rw [if_pos hsz] at ha
      simp only [Option.map_eq_some_iff, Prod.mk.injEq] at ha
      obtain ⟨H1, hst, rfl, rfl, rfl⟩ := ha
      have hx' := ev_sound T hx ee
      simp only [cv, Option.map_eq_some_iff] at hx'
      obtain ⟨loc, hloc, hx'⟩ := hx'
      have hcells := cvs_cells (ev_sound T hy hu)
      obtain ⟨w', h1, h2, h3⟩ := store_sound (P := P) R hloc hcells hst
      refine ⟨⟨.skip, undef, w', E, ?_, .inr ⟨rfl, rfl⟩, h3, h2, rfl⟩, rfl⟩
      have hlen := cvs_length hcells
      simp only [Array.length_toList] at hlen
      simp only [execOp, Instr.storeAt, ← hx', Instr.sureAddr, Sem.run_bind, Sem.run_pure, Result.andThen_ok, storeVar, run_sizeT hs, Sem.run_ite]
      rw [if_neg (by omega)]
      simp only [h1, Result.andThen_ok, Sem.run_pure]
    · simp at ha
  | insert t m k y | mapUpdate t m k y =>
    simp only [compOp] at hc
    split at hc
    · rename_i kt et hu
      simp only [Option.bind_eq_some_iff, Option.map_eq_some_iff, COp.x.injEq] at hc
      obtain ⟨ct, hct, m', hm, k', hk, y', hy, rfl⟩ := hc
      simp only [axo, Option.bind_eq_some_iff] at ha
      obtain ⟨i, hi, u, hu', ha⟩ := ha
      split at ha
      · rename_i b ee
        split at ha
        · rename_i es hb
          simp only [Option.map_eq_some_iff, Prod.mk.injEq] at ha
          obtain ⟨es', hes, rfl, rfl, rfl⟩ := ha
          have hx' := ev_sound T hm ee
          simp only [cv, Option.map_eq_some_iff] at hx'
          obtain ⟨loc, hloc, hx'⟩ := hx'
          obtain ⟨w', h1, h2, h3⟩ := mapSet_sound (P := P) R hloc hb hu hct (ev_sound T hk hi) (ev_sound T hy hu') hes
          refine ⟨⟨.skip, undef, w', E, ?_, .inr ⟨rfl, rfl⟩, h3, h2, rfl⟩, rfl⟩
          simp only [execOp, ← hx', Sem.run_bind, h1, Result.andThen_ok, Sem.run_pure]
        · simp at ha
      · simp at ha
    · simp at hc
  | call cl =>
    simp only [compOp, Option.bind_eq_some_iff] at hc
    obtain ⟨l, hl, hc⟩ := hc
    obtain ⟨callee, args, argTypes⟩ := cl
    cases callee with
    | value x =>
      exfalso
      cases x with
      | func f =>
        simp only [] at hc
        split at hc
        · simp only [Option.some.injEq, COp.x.injEq] at hc; exact hnc _ _ hc.symm
        · simp at hc
      | _ => simp only [Option.map_eq_some_iff, COp.x.injEq] at hc; obtain ⟨_, _, hc⟩ := hc; exact hnv _ _ hc.symm
    | invoke x n =>
      simp only [Option.map_eq_some_iff, COp.x.injEq] at hc
      obtain ⟨_, _, rfl⟩ := hc
      simp [axo] at ha
    | builtin bt =>
      have hrun : ∀ q w', (∀ cs, (Go.builtin bt argTypes ty cs (args.toList.map a.eval).toArray).run P w = .ok (.value q) w') → (execOp a.eval ⟨dst, .call ⟨.builtin bt, args, argTypes⟩, ty, pos, after, guard⟩).run P w = .ok (.value q) w' := by
        intro q w' h
        simp only [execOp, resolve, invoke, Sem.run_bind, Sem.run_pure, Result.andThen_ok]
        have e : (args.toList.map a.eval).toArray = args.map a.eval := by apply Array.ext'; simp
        rw [e] at h
        exact h _
      simp only [] at hl
      unfold compBuiltin at hc
      simp only [] at hc
      split at hc
      · simp only [Option.bind_eq_some_iff] at hc
        obtain ⟨t, ht, hc⟩ := hc
        split at hc <;> (try (split at hc)) <;> simp at hc
      · simp only [Option.bind_eq_some_iff] at hc
        obtain ⟨t, ht, hc⟩ := hc
        split at hc <;> simp at hc
      · simp at hc
      · simp at hc
      · -- append
        rename_i x y
        obtain ⟨ox, oy, hargs, hx, hy⟩ := compOpds_two hl
        simp only [Option.bind_eq_some_iff] at hc
        obtain ⟨t, ht, u, hu, hc⟩ := hc
        have main : ∀ e s n z, P.underlying t = some (.slice e) → (∃ d, P.underlying u = some d ∧ ∀ k, d ≠ .int k) → sizeT P e = some s → bytesT P e = some n → zeroC P e = some z → z.length = s → c = .append e s n x y →
            Writes P a ⟨dst, .call ⟨.builtin .append, args, argTypes⟩, ty, pos, after, guard⟩ E H w v H' ∧ ds' = ds := by
          intro e s n z h1 h2 h3 h4 h5 h6 h7
          subst h7
          simp only [axo, Option.bind_eq_some_iff, Option.map_eq_some_iff, Prod.exists, Prod.mk.injEq] at ha
          obtain ⟨xv, hxv, yv, hyv, v1, H1, happ, rfl, rfl, rfl⟩ := ha
          obtain ⟨q, w', E', h8, h9, h10, h11⟩ := append_sound (P := P) R ht hu h1 h2 h3 h4 h5 h6 (ev_sound T hx hxv) (ev_sound T hy hyv) happ hF ty
          refine ⟨⟨.value q, q, w', E', hrun q w' (fun cs => ?_), .inl rfl, h9, h10, h11⟩, rfl⟩
          rw [hargs]
          simp only [List.map_cons, List.map_nil, Go.builtin, Sem.run_bind, h8, Result.andThen_ok, Sem.run_pure]
        split at hc
        · rename_i e f h1 h2
          simp only [Option.bind_eq_some_iff] at hc
          obtain ⟨s, hs, n, hn, z, hz, hc⟩ := hc
          by_cases hz' : z.length = s
          case neg => rw [if_neg hz'] at hc; simp at hc
          rw [if_pos hz'] at hc
          simp only [Option.some.injEq, COp.x.injEq] at hc
          exact main e s n z h1 ⟨_, h2, by simp⟩ hs hn hz hz' hc.symm
        · rename_i e h1 h2
          simp only [Option.bind_eq_some_iff] at hc
          obtain ⟨s, hs, n, hn, z, hz, hc⟩ := hc
          by_cases hz' : z.length = s ∧ s = 1
          case neg => rw [if_neg hz'] at hc; simp at hc
          rw [if_pos hz'] at hc
          simp only [Option.some.injEq, COp.x.injEq] at hc
          exact main e s n z h1 ⟨_, h2, by simp⟩ hs hn hz hz'.1 hc.symm
        · simp at hc
      · -- copy
        rename_i x y
        obtain ⟨ox, oy, hargs, hx, hy⟩ := compOpds_two hl
        simp only [Option.bind_eq_some_iff] at hc
        obtain ⟨t, ht, u, hu, hc⟩ := hc
        have main : ∀ e s, P.underlying t = some (.slice e) → sizeT P e = some s → c = .copy s x y →
            Writes P a ⟨dst, .call ⟨.builtin .copy, args, argTypes⟩, ty, pos, after, guard⟩ E H w v H' ∧ ds' = ds := by
          intro e s h1 h3 h7
          subst h7
          simp only [axo, Option.bind_eq_some_iff, Option.map_eq_some_iff, Prod.exists, Prod.mk.injEq] at ha
          obtain ⟨xv, hxv, yv, hyv, v1, H1, happ, rfl, rfl, rfl⟩ := ha
          obtain ⟨q, w', h8, h9, h10, h11⟩ := copy_sound (P := P) R ht h1 h3 (ev_sound T hx hxv) (ev_sound T hy hyv) happ ty
          refine ⟨⟨.value q, q, w', E, hrun q w' (fun cs => ?_), .inl rfl, h9, h10, h11⟩, rfl⟩
          rw [hargs]
          simp only [List.map_cons, List.map_nil, Go.builtin, Sem.run_bind, h8, Result.andThen_ok, Sem.run_pure]
        split at hc
        · rename_i e f h1 h2
          simp only [Option.bind_eq_some_iff, Option.some.injEq, COp.x.injEq] at hc
          obtain ⟨s, hs, hc⟩ := hc
          exact main e s h1 hs hc.symm
        · rename_i e h1 h2
          simp only [Option.bind_eq_some_iff] at hc
          obtain ⟨s, hs, hc⟩ := hc
          by_cases hz' : s = 1
          case neg => rw [if_neg hz'] at hc; simp at hc
          rw [if_pos hz'] at hc
          simp only [Option.some.injEq, COp.x.injEq] at hc
          exact main e s h1 hs hc.symm
        · simp at hc
      · -- delete
        rename_i x i
        obtain ⟨ox, oy, hargs, hx, hy⟩ := compOpds_two hl
        simp only [Option.bind_eq_some_iff] at hc
        obtain ⟨t, ht, hc⟩ := hc
        split at hc
        · rename_i kt et hu
          simp only [Option.map_eq_some_iff, COp.x.injEq] at hc
          obtain ⟨ct, hct, rfl⟩ := hc
          simp only [axo, Option.bind_eq_some_iff] at ha
          obtain ⟨iv, hiv, ha⟩ := ha
          split at ha
          · rename_i b ee
            split at ha
            · rename_i es hb
              simp only [Option.map_eq_some_iff, Prod.mk.injEq] at ha
              obtain ⟨es', hes, rfl, rfl, rfl⟩ := ha
              have hx' := ev_sound T hx ee
              simp only [cv, Option.map_eq_some_iff] at hx'
              obtain ⟨loc, hloc, hx'⟩ := hx'
              obtain ⟨w', h1, h2, h3⟩ := mapDel_sound (P := P) R hloc hb hu hct (ev_sound T hy hiv) hes argTypes ht ty
              refine ⟨⟨.value (.tuple #[]), .tuple #[], w', E, hrun _ w' (fun cs => ?_), .inl rfl, h3, h2, rfl⟩, rfl⟩
              rw [hargs]
              simp only [List.map_cons, List.map_nil, ← hx', Go.builtin, Sem.run_bind, h1, Result.andThen_ok, Sem.run_pure]
            · simp at ha
          · simp at ha
        · simp at hc
      · -- clear
        rename_i x
        obtain ⟨ox, hargs, hx⟩ := compOpds_one hl
        simp only [Option.bind_eq_some_iff] at hc
        obtain ⟨t, ht, hc⟩ := hc
        split at hc
        · rename_i e hu
          simp only [Option.map_eq_some_iff, COp.x.injEq] at hc
          obtain ⟨z, hz, rfl⟩ := hc
          obtain ⟨zv, hzr, hzc⟩ := run_zeroC hz w
          simp only [axo] at ha
          split at ha
          · rename_i ee
            simp only [Option.some.injEq, Prod.mk.injEq] at ha
            obtain ⟨rfl, rfl, rfl⟩ := ha
            have hx' := ev_sound T hx ee
            simp only [cv, Option.some.injEq] at hx'
            refine ⟨⟨.value (.tuple #[]), .tuple #[], w, E, hrun _ w (fun cs => ?_), .inl rfl, Ext.refl E _ w, R, rfl⟩, rfl⟩
            rw [hargs]
            simp [Go.builtin, Builtin.clear_, ht, run_underlying hu, ← hx']
          · rename_i ee
            simp only [Option.some.injEq, Prod.mk.injEq] at ha
            obtain ⟨rfl, rfl, rfl⟩ := ha
            have hx' := ev_sound T hx ee
            simp only [cv, Option.map_eq_some_iff] at hx'
            obtain ⟨loc, hloc, hx'⟩ := hx'
            refine ⟨⟨.value (.tuple #[]), .tuple #[], w, E, hrun _ w (fun cs => ?_), .inl rfl, Ext.refl E _ w, R, rfl⟩, rfl⟩
            rw [hargs]
            simp [Go.builtin, Builtin.clear_, ht, run_underlying hu, ← hx']
          · rename_i b off n cp ee
            simp only [Option.map_eq_some_iff, Prod.mk.injEq] at ha
            obtain ⟨H1, hst, rfl, rfl, rfl⟩ := ha
            have hx' := ev_sound T hx ee
            have : ∃ loc cc, E b = some loc ∧ a.eval ox = .slice (some ⟨loc.blk, off, none⟩) n cc := by
              cases cp <;> (simp only [cv, Option.map_eq_some_iff] at hx'; obtain ⟨loc, hloc, hx'⟩ := hx'; exact ⟨loc, _, hloc, hx'.symm⟩)
            obtain ⟨loc, cc, hloc, hx'⟩ := this
            have hcells : cvs E (repeatA n z) = some (Builtin.zeroCells zv.cells n).toList := by
              rw [zeroCells_eq]; exact cvs_replicate (hzc E) n
            obtain ⟨w', h1, h2, h3⟩ := store_sound (P := P) R hloc hcells hst
            refine ⟨⟨.value (.tuple #[]), .tuple #[], w', E, hrun _ w' (fun cs => ?_), .inl rfl, h3, h2, rfl⟩, rfl⟩
            rw [hargs]
            simp only [List.map_cons, List.map_nil, hx', Go.builtin, Builtin.clear_, ht, List.getElem?_toArray, List.getElem?_cons_zero, Sem.run_bind, run_underlying hu, Result.andThen_ok, Sem.run_pure]
            cases n with
            | zero =>
              have : w' = w := by
                have hz0 : (Builtin.zeroCells zv.cells 0).toList = [] := by simp [Builtin.zeroCells]
                rw [hz0] at h1
                simp only [storeCells, Sem.run_pure] at h1
                injection h1 with _ h1; exact h1.symm
              subst this; simp
            | succ n => simp only [hzr, Result.andThen_ok, h1, Sem.run_bind, Sem.run_pure]
          · simp at ha
        · simp at hc
      · simp at hc
  | defer cl =>
    exfalso
    simp only [compOp, Option.bind_eq_some_iff] at hc
    obtain ⟨_, _, hc⟩ := hc
    split at hc
    · simp only [Option.map_eq_some_iff, COp.x.injEq] at hc; obtain ⟨_, _, hc⟩ := hc; exact hnd _ _ hc.symm
    · simp at hc
  | binOp op t x y ty' =>
    simp only [compOp, Option.bind_eq_some_iff] at hc
    obtain ⟨_, _, _, _, hc⟩ := hc
    split at hc
    · simp only [compEq] at hc; split at hc <;> simp at hc
    · simp only [compEq] at hc; split at hc <;> simp at hc
    · simp at hc
  | convert s d x =>
    simp only [compOp, Option.bind_eq_some_iff] at hc
    obtain ⟨x', hx, hc⟩ := hc
    (repeat' split at hc) <;> simp at hc
  | build t ps => simp only [compOp] at hc; (repeat' split at hc) <;> simp [Option.bind_eq_some_iff] at hc
  | pick x y z => simp [compOp, Option.bind_eq_some_iff] at hc
  | makeFunc _ _ _ => simp [compOp, Option.bind_eq_some_iff] at hc
  | makeInterface _ _ => simp only [compOp] at hc; split at hc <;> simp at hc
  | fieldAddr _ _ _ => simp only [compOp] at hc; split at hc <;> simp only [Option.bind_eq_some_iff, reduceCtorEq] at hc; obtain ⟨_, _, _, _, hc⟩ := hc; split at hc <;> simp at hc
  | field _ _ _ => simp only [compOp] at hc; split at hc <;> simp [Option.bind_eq_some_iff] at hc
  | indexAddr _ _ _ => simp only [compOp, Option.bind_eq_some_iff] at hc; obtain ⟨_, _, _, _, hc⟩ := hc; split at hc <;> simp at hc
  | index _ _ _ => simp only [compOp, Option.bind_eq_some_iff] at hc; obtain ⟨_, _, _, _, hc⟩ := hc; split at hc <;> simp [Option.bind_eq_some_iff] at hc
  | lookup _ _ _ _ => simp only [compOp] at hc; split at hc <;> simp [Option.bind_eq_some_iff] at hc
  | load t x => simp only [compOp, Option.bind_eq_some_iff] at hc; obtain ⟨_, _, hc⟩ := hc; (repeat' split at hc) <;> simp at hc
  | slice t x lo hi mx =>
    cases mx with
    | some m =>
      cases hi with
      | none => simp [compOp] at hc
      | some hi =>
        simp only [compOp, Option.bind_eq_some_iff] at hc
        obtain ⟨_, _, _, _, _, _, _, _, hc⟩ := hc
        split at hc
        · simp only [Option.map_eq_some_iff] at hc; obtain ⟨_, _, hc⟩ := hc; simp at hc
        · simp at hc
    | none =>
      simp only [compOp, Option.bind_eq_some_iff] at hc
      obtain ⟨_, _, _, _, _, _, hc⟩ := hc
      split at hc <;> simp at hc
  | alloc t => simp [compOp] at hc
  | box t x => simp [compOp, Option.bind_eq_some_iff] at hc
  | buildSlice t n ps =>
    simp only [compOp] at hc
    split at hc
    · simp only [Option.bind_eq_some_iff] at hc
      obtain ⟨_, _, _, _, hc⟩ := hc
      split at hc <;> simp at hc
    · simp at hc
  | makeMap t r => simp only [compOp] at hc; split at hc <;> simp at hc
  | makeSlice _ _ _ => simp only [compOp] at hc; split at hc <;> simp [Option.bind_eq_some_iff] at hc
  | _ => simp [compOp] at hc
end Go.Eng
