/- The engine, ninth part: reads are sound. -/
import Derived.Test.YtgmaknppneonfaaEngH
set_option linter.unusedSimpArgs false
set_option linter.unusedVariables false
namespace Go.Eng
variable {P : Program}

theorem findK_run {E : Env} {k : CT} {kt : TypeId} (hk : ctOf P kt = some k) {i : AVal} {iv : Value} (hi : cv E i = some iv) (w : World) {es : List (AVal × AVal)} {r : Option AVal} (ms : List MapEntry)
    (h : findK k i es = some r) (hm : cvm E es = some (ms.map fun e => (e.key, e.val))) :
    (r = none ∧ (Instr.findKey kt iv ms).run P w = .ok none w) ∨ ∃ v j x, r = some v ∧ (Instr.findKey kt iv ms).run P w = .ok (some (j, x)) w ∧ cv E v = some x := by
  obtain ⟨d, hd, h⟩ := findK_sound hk hi (w := w) ms 0 h hm
  rcases h with ⟨rfl, hf⟩ | ⟨v, j, x, rfl, hf, hc⟩
  · exact .inl ⟨rfl, by simp [Instr.findKey, run_underlying hd, hf]⟩
  · exact .inr ⟨v, j, x, rfl, by simp [Instr.findKey, run_underlying hd, hf], hc⟩

theorem lookA_sound {E : Env} {zero : AVal} {zv : Value} {ok : Bool} (hz : cv E zero = some zv) : cv E (lookA zero ok none) = some (if ok then .tuple #[zv, .bool false] else zv) := by
  cases ok <;> simp [lookA, cv, cvs, hz]
theorem lookA_sound' {E : Env} {zero v : AVal} {x : Value} {ok : Bool} (hz : cv E v = some x) : cv E (lookA zero ok (some v)) = some (if ok then .tuple #[x, .bool true] else x) := by
  cases ok <;> simp [lookA, cv, cvs, hz]

theorem elastic_cap {o l s tot : Nat} (hs : 0 < s) (h : l ≤ (tot - o) / s) : (tot - (o + l * s)) / s = (tot - o) / s - l := by
  have h1 : l * s ≤ tot - o := by
    have := Nat.mul_le_mul_right s h
    exact Nat.le_trans this (Nat.div_mul_le_self _ _)
  rw [Nat.sub_add_eq]
  have : tot - o - l * s = tot - o - s * l := by rw [Nat.mul_comm]
  rw [this, Nat.sub_mul_div_of_le _ _ _ (by rw [Nat.mul_comm]; exact h1)]

set_option maxHeartbeats 4000000 in
theorem rop_sound {E : Env} {H : AHeap} {w : World} (R : Rel E H w) {τ : Tm} {a : Act} (T : TRel E τ a.tmps) {o : Oper} {c : ROp} (hc : compOp P o.op = some (.r c)) {rd : Rd} (ha : ard τ c = some rd) {v : AVal} (hv : rd.get H = some v) : Ans P a o E v w := by
  obtain ⟨dst, op, ty, pos, after, guard⟩ := o
  unfold Ans
  cases op with
  | load t x =>
    simp only [compOp, Option.bind_eq_some_iff] at hc
    obtain ⟨x', hx, hc⟩ := hc
    have main : ∀ s ag, c = .load ag s x' → ag = aggT P t → (aggT P t = true → sizeT P t = some s) → (aggT P t = false → s = 1) → ∀ d, P.underlying t = some d → ∃ u, (execOp a.eval ⟨dst, .load t x, ty, pos, after, guard⟩).run P w = .ok (.value u) w ∧ cv E v = some u := by
      intro s ag e1 e2 h1 h2 d hu
      subst e1; subst e2
      simp only [ard] at ha
      split at ha
      · rename_i b' off ee
        simp only [Option.some.injEq] at ha
        subst ha
        simp only [Rd.get] at hv
        have hx' := ev_sound T hx ee
        simp only [cv, Option.map_eq_some_iff] at hx'
        obtain ⟨loc, hloc, hx'⟩ := hx'
        obtain ⟨u, hr, hcv⟩ := run_loadVar_at (P := P) R hloc hu h1 h2 hv
        exact ⟨u, by simp only [execOp, Instr.loadAt, ← hx', Instr.sureAddr, Sem.run_bind, Sem.run_pure, Result.andThen_ok, hr], hcv⟩
      · simp at ha
    split at hc
    · rename_i hag
      simp only [Option.map_eq_some_iff, COp.r.injEq] at hc
      obtain ⟨s, hs, rfl⟩ := hc
      have : ∃ d, P.underlying t = some d := by
        unfold aggT at hag
        cases hu : P.underlying t with
        | none => simp [hu] at hag
        | some d => exact ⟨d, rfl⟩
      obtain ⟨d, hd⟩ := this
      exact main s true rfl hag.symm (fun _ => hs) (fun h => by simp [hag] at h) d hd
    · rename_i hag
      have hag : aggT P t = false := by simpa using hag
      split at hc
      · rename_i hu
        simp only [Option.some.injEq, COp.r.injEq] at hc
        obtain ⟨d, hd⟩ := Option.isSome_iff_exists.1 hu
        exact main 1 false hc.symm hag.symm (fun h => by simp [hag] at h) (fun _ => rfl) d hd
      · simp at hc
  | lookup t x i ok =>
    simp only [compOp] at hc
    split at hc
    · rename_i kt et hu
      simp only [Option.bind_eq_some_iff, Option.map_eq_some_iff, COp.r.injEq] at hc
      obtain ⟨k, hk, z, hz, x', hx, i', hi, rfl⟩ := hc
      simp only [ard, Option.bind_eq_some_iff] at ha
      obtain ⟨iv, hiv, ha⟩ := ha
      have hi' := ev_sound T hi hiv
      obtain ⟨zv, hzr, hzc⟩ := run_zeroV hz w
      by_cases hcell : iv.isCell = true
      case neg => rw [if_neg hcell] at ha; simp at ha
      rw [if_pos hcell] at ha
      split at ha
      · rename_i ee
        simp only [Option.some.injEq] at ha
        subst ha
        simp only [Rd.get] at hv
        simp only [Option.some.injEq] at hv; subst hv
        have hx' := ev_sound T hx ee
        simp only [cv, Option.some.injEq] at hx'
        refine ⟨_, ?_, lookA_sound (hzc E)⟩
        unfold ctOf at hk
        cases hku : P.underlying kt with
        | none => simp [hku] at hk
        | some d =>
          have hck := checkKey_plain (P := P) (b := true) (kt := kt) (k := k) (by unfold ctOf; exact hk) (a.eval i) w
          simp only [execOp, Instr.lookup, Sem.run_bind, run_underlying hu, Result.andThen_ok, ← hx', Sem.run_pure]
          simp [hck, Instr.findKey, run_underlying hku, Instr.findNow, hzr]
      · rename_i b' ee
        simp only [Option.some.injEq] at ha
        subst ha
        simp only [Rd.get] at hv
        cases hb : H.get b' with
        | dead => rw [hb] at hv; simp [lookBlk] at hv
        | cells _ _ _ _ => rw [hb] at hv; simp [lookBlk] at hv
        | map es =>
          rw [hb] at hv
          simp only [lookBlk, Option.map_eq_some_iff] at hv
          obtain ⟨r, hr, rfl⟩ := hv
          have hx' := ev_sound T hx ee
          simp only [cv, Option.map_eq_some_iff] at hx'
          obtain ⟨loc, hloc, hx'⟩ := hx'
          have hbr := R.blk b' loc hloc
          rw [hb] at hbr
          obtain ⟨arr, clock, hw, hm⟩ := hbr
          have hck := checkKey_plain (P := P) (b := arr.isEmpty) (kt := kt) (k := k) hk (a.eval i) w
          have hget : (getObj loc.blk).run P w = .ok (.map arr clock) w := by simp [getObj, Sem.run, hw]
          rcases findK_run hk hi' w arr.toList hr hm with ⟨rfl, hf⟩ | ⟨q, j, y, rfl, hf, hq⟩
          · refine ⟨_, ?_, lookA_sound (hzc E)⟩
            simp only [execOp, Instr.lookup, Sem.run_bind, run_underlying hu, Result.andThen_ok, ← hx', Sem.run_pure, hget, hck, hf, hzr]
          · refine ⟨_, ?_, lookA_sound' hq⟩
            simp only [execOp, Instr.lookup, Sem.run_bind, run_underlying hu, Result.andThen_ok, ← hx', Sem.run_pure, hget, hck, hf]
      · simp at ha
    · simp at hc
  | slice t x lo hi mx =>
    cases mx with
    | some m =>
      cases hi with
      | none => simp [compOp] at hc
      | some hi =>
      simp only [compOp, Option.bind_eq_some_iff] at hc
      obtain ⟨x', hx, lo', hlo, hi', hhi, mx', hmx, hc⟩ := hc
      split at hc
      · rename_i e hu
        simp only [Option.map_eq_some_iff, COp.r.injEq] at hc
        obtain ⟨s, hs, rfl⟩ := hc
        simp only [ard, Option.bind_eq_some_iff] at ha
        obtain ⟨l1, hl1, h1, hh1, m1, hm1, ha⟩ := ha
        have eh := ev_sound T hhi hh1
        have em := ev_sound T hmx hm1
        have key : ∀ (b' off n cap : Nat) (loc : Loc), E b' = some loc → a.eval x = .slice (some ⟨loc.blk, off, none⟩) n cap → ∀ c2, c2 ≤ cap → slice3A b' off n s c2 l1 h1 m1 = some v → ∃ u, (execOp a.eval ⟨dst, .slice t x lo (some hi) (some m), ty, pos, after, guard⟩).run P w = .ok (.value u) w ∧ cv E v = some u := by
          intro b' off n cap loc hloc hx' c2 hc2 hv
          simp only [slice3A, Option.bind_eq_some_iff, Option.map_eq_some_iff, Prod.exists] at hv
          obtain ⟨m2, hm2, l, h, hb, rfl⟩ := hv
          have hm3 : mx3 cap m1 = some m2 := by
            cases m1 <;> simp only [mx3, reduceCtorEq] at hm2 ⊢
            rename_i k j
            by_cases hj : 0 ≤ j ∧ j ≤ (c2 : Int)
            · rw [if_pos hj] at hm2; rw [if_pos (by omega)]; exact hm2
            · rw [if_neg hj] at hm2; simp at hm2
          obtain ⟨hb', hlh, hhm, _⟩ := abounds_sound3 (P := P) (isSlice := true) (cap := cap) T hlo hl1 eh em hm3 hb w
          refine ⟨.slice (some ⟨loc.blk, if m2 = l then off else off + l * s, none⟩) (h - l) (m2 - l), ?_, by simp [cv, hloc]⟩
          simp only [execOp, Instr.sliceAt, Instr.slice, Sem.run_bind, run_underlying hu, Result.andThen_ok, Option.map_some, hx', hb', run_sizeT hs, Sem.run_pure]
          by_cases hcl : m2 = l <;> simp [hcl, add_plain]
        split at ha
        · rename_i b' off n cp ee
          simp only [Option.some.injEq] at ha
          subst ha
          simp only [Rd.get] at hv
          have hx' := ev_sound T hx ee
          simp only [cv, Option.map_eq_some_iff] at hx'
          obtain ⟨loc, hloc, hx'⟩ := hx'
          exact key b' off n cp loc hloc hx'.symm cp (Nat.le_refl _) hv
        · rename_i b' off n ee
          simp only [Option.some.injEq] at ha
          subst ha
          simp only [Rd.get] at hv
          cases hb0 : H.get b' with
          | dead => rw [hb0] at hv; simp [slice3Blk] at hv
          | map es => rw [hb0] at hv; simp [slice3Blk] at hv
          | cells cs e' s' m' =>
            rw [hb0] at hv
            cases m' with
            | ro => simp [slice3Blk] at hv
            | fixed => simp [slice3Blk] at hv
            | elastic =>
              simp only [slice3Blk] at hv
              by_cases hse : s' = s
              case neg => rw [if_neg hse] at hv; simp at hv
              rw [if_pos hse] at hv
              subst hse
              have hx' := ev_sound T hx ee
              simp only [cv, Option.map_eq_some_iff] at hx'
              obtain ⟨loc, hloc, hx'⟩ := hx'
              obtain ⟨arr, fz, vs, hw, hcs, htot, hes, ⟨rest, harr, _⟩, _, hpos⟩ := R.cells hloc hb0
              have hle : (cs.length - off) / s' ≤ (loc.tot - off) / loc.es := by
                rw [hes]
                apply Nat.div_le_div_right
                have h1 := cvs_length hcs
                have h2 : arr.toList.length = vs.length + rest.length := by rw [harr]; simp
                simp at h2; omega
              exact key b' off n _ loc hloc hx'.symm _ hle hv
        · simp at ha
      · simp at hc
    | none =>
      simp only [compOp, Option.bind_eq_some_iff] at hc
      obtain ⟨x', hx, lo', hlo, hi', hhi, hc⟩ := hc
      split at hc
      · simp at hc
      · rename_i e hu
        simp only [Option.map_eq_some_iff, COp.r.injEq] at hc
        obtain ⟨s, hs, rfl⟩ := hc
        simp only [ard, Option.bind_eq_some_iff] at ha
        obtain ⟨l1, hl1, h1, hh1, ha⟩ := ha
        split at ha
        · rename_i ee
          simp only [Option.some.injEq] at ha
          subst ha
          simp only [Rd.get] at hv
          simp only [Option.map_eq_some_iff, Prod.exists] at hv
          obtain ⟨l, h, hb, rfl⟩ := hv
          have hx' := ev_sound T hx ee
          simp only [cv, Option.some.injEq] at hx'
          obtain ⟨hb', hlh, hor⟩ := abounds_sound (P := P) (isSlice := true) T hlo hl1 hhi hh1 hb w
          have h0 : h = 0 := by omega
          have l0 : l = 0 := by omega
          subst h0; subst l0
          refine ⟨.slice none 0 0, ?_, rfl⟩
          simp only [execOp, Instr.sliceAt, Instr.slice, Sem.run_bind, run_underlying hu, Result.andThen_ok, Option.map_none, ← hx', hb', run_sizeT hs, Sem.run_pure]
          simp
        · rename_i b' off n cp ee
          simp only [Option.some.injEq] at ha
          subst ha
          simp only [Rd.get] at hv
          simp only [Option.map_eq_some_iff, Prod.exists] at hv
          obtain ⟨l, h, hb, rfl⟩ := hv
          have hx' := ev_sound T hx ee
          simp only [cv, Option.map_eq_some_iff] at hx'
          obtain ⟨loc, hloc, hx'⟩ := hx'
          obtain ⟨hb', hlh, hor⟩ := abounds_sound (P := P) (isSlice := true) T hlo hl1 hhi hh1 hb w
          refine ⟨.slice (some ⟨loc.blk, if cp = l then off else off + l * s, none⟩) (h - l) (cp - l), ?_, by simp [cv, hloc]⟩
          simp only [execOp, Instr.sliceAt, Instr.slice, Sem.run_bind, run_underlying hu, Result.andThen_ok, Option.map_none, ← hx', hb', run_sizeT hs, Sem.run_pure]
          by_cases hcl : cp = l <;> simp [hcl, add_plain]
        · rename_i b' off n ee
          simp only [Option.some.injEq] at ha
          subst ha
          simp only [Rd.get] at hv
          cases hb0 : H.get b' with
          | dead => rw [hb0] at hv; simp [sliceBlk, strBlk, lenBlk] at hv
          | map es => rw [hb0] at hv; simp [sliceBlk, strBlk, lenBlk] at hv
          | cells cs e' s' m =>
            rw [hb0] at hv
            cases m with
            | ro => simp [sliceBlk] at hv
            | fixed => simp [sliceBlk] at hv
            | elastic =>
              simp only [sliceBlk] at hv
              by_cases hse : s' = s
              case neg => rw [if_neg hse] at hv; simp at hv
              rw [if_pos hse] at hv
              subst hse
              simp only [Option.bind_eq_some_iff, Prod.exists] at hv
              obtain ⟨l, h, hb, hv⟩ := hv
              have hx' := ev_sound T hx ee
              simp only [cv, Option.map_eq_some_iff] at hx'
              obtain ⟨loc, hloc, hx'⟩ := hx'
              obtain ⟨arr, fz, vs, hw, hcs, htot, hes, ⟨rest, harr, _⟩, _, hpos⟩ := R.cells hloc hb0
              have hpos := hpos rfl
              have hle : (cs.length - off) / s' ≤ (loc.tot - off) / loc.es := by
                rw [hes]
                apply Nat.div_le_div_right
                have h1 := cvs_length hcs
                have h2 : arr.toList.length = vs.length + rest.length := by rw [harr]; simp
                simp at h2; omega
              -- the bounds at the world's capacity
              have hb2 : abounds n ((loc.tot - off) / loc.es) l1 h1 = some (l, h) := by
                simp only [abounds, Option.bind_eq_some_iff] at hb ⊢
                obtain ⟨q, hq, hb⟩ := hb
                refine ⟨q, ?_, hb⟩
                cases h1 with
                | none => exact hq
                | some u =>
                  cases u <;> simp only [reduceCtorEq] at hq ⊢
                  rename_i k j
                  by_cases hj : 0 ≤ j ∧ j ≤ (((cs.length - off) / s' : Nat) : Int)
                  · rw [if_pos hj] at hq
                    rw [if_pos (by omega)]; exact hq
                  · rw [if_neg hj] at hq; simp at hq
              obtain ⟨hb', hlh, hor⟩ := abounds_sound (P := P) (isSlice := true) T hlo hl1 hhi hh1 hb2 w
              have hrun : (execOp a.eval ⟨dst, .slice t x lo hi none, ty, pos, after, guard⟩).run P w = .ok (.value (.slice (some (if (loc.tot - off) / loc.es = l then ⟨loc.blk, off, none⟩ else ⟨loc.blk, off + l * s', none⟩)) (h - l) ((loc.tot - off) / loc.es - l))) w := by
                simp only [execOp, Instr.sliceAt, Instr.slice, Sem.run_bind, run_underlying hu, Result.andThen_ok, Option.map_none, ← hx', hb', run_sizeT hs, Sem.run_pure]
                by_cases hcl : (loc.tot - off) / loc.es = l <;> simp [hcl, add_plain]
              refine ⟨_, hrun, ?_⟩
              by_cases l0 : l = 0
              · rw [if_pos l0] at hv; simp only [Option.some.injEq] at hv; subst hv; subst l0
                simp [cv, hloc]
              · rw [if_neg l0] at hv
                by_cases hlt : l < (cs.length - off) / s'
                · rw [if_pos hlt] at hv; simp only [Option.some.injEq] at hv; subst hv
                  have hne : (loc.tot - off) / loc.es ≠ l := by omega
                  have := elastic_cap (o := off) (l := l) (tot := loc.tot) (s := loc.es) (by rw [hes]; exact hpos) (by omega)
                  simp only [cv, hloc, Option.map_some, hne, if_false]
                  rw [← hes, this]
                · rw [if_neg hlt] at hv
                  by_cases hhl : h = l
                  · rw [if_pos hhl] at hv; simp only [Option.some.injEq] at hv; subst hv; subst hhl
                    simp only [cv, hloc, Option.map_some, Nat.sub_self, Option.some.injEq, Value.slice.injEq, true_and, and_true]
                    by_cases hcl : (loc.tot - off) / loc.es = h <;> simp [hcl]
                  · rw [if_neg hhl] at hv; simp at hv
        · simp at ha
      · simp only [Option.map_eq_some_iff] at hc; obtain ⟨_, _, hc⟩ := hc; simp at hc
      · simp at hc
  | convert s d x =>
    simp only [compOp, Option.bind_eq_some_iff] at hc
    obtain ⟨x', hx, hc⟩ := hc
    split at hc
    · simp at hc
    · simp at hc
    · rename_i e h1 h2
      split at hc
      · rename_i h3
        simp only [Option.some.injEq, COp.r.injEq] at hc; subst hc
        have conv : ∀ y, (Conv.bytesToString (a.eval x)).run P w = .ok y w → (∀ q n c, a.eval x = .slice q n c → (execOp a.eval ⟨dst, .convert s d x, ty, pos, after, guard⟩).run P w = .ok (.value y) w) := by
          intro y hy q n c hq
          simp only [hq] at hy
          simp only [execOp, convert, Sem.run_bind, run_underlying h1, run_underlying h2, Result.andThen_ok, hq, run_underlying h3, hy, Sem.run_pure]
        simp only [ard] at ha
        split at ha
        · rename_i ee
          simp only [Option.some.injEq] at ha
          subst ha
          simp only [Rd.get] at hv
          simp only [Option.some.injEq] at hv; subst hv
          have hx' := ev_sound T hx ee
          simp only [cv, Option.some.injEq] at hx'
          exact ⟨.string .empty, conv _ (by simp [Conv.bytesToString, ← hx']) _ _ _ hx'.symm, by simp [cv]; rfl⟩
        · rename_i b' _ _ _ ee
          simp only [Option.some.injEq] at ha
          subst ha
          simp only [Rd.get] at hv
          simp only [Option.some.injEq] at hv; subst hv
          have hx' := ev_sound T hx ee
          simp only [cv, Option.map_eq_some_iff] at hx'
          obtain ⟨loc, hloc, hx'⟩ := hx'
          exact ⟨.string .empty, conv _ (by simp [Conv.bytesToString, ← hx', loadCells, loadCellsFrom]) _ _ _ hx'.symm, by simp [cv]; rfl⟩
        · rename_i b' off n cp ee
          simp only [Option.some.injEq] at ha
          subst ha
          simp only [Rd.get] at hv
          cases hb0 : H.get b' with
          | dead => rw [hb0] at hv; simp [sliceBlk, strBlk, lenBlk] at hv
          | map es => rw [hb0] at hv; simp [sliceBlk, strBlk, lenBlk] at hv
          | cells cs e' s' m =>
            rw [hb0] at hv
            simp only [strBlk] at hv
            by_cases hle : off + n ≤ cs.length
            case neg => rw [if_neg hle] at hv; simp at hv
            rw [if_pos hle] at hv
            simp only [Option.map_eq_some_iff] at hv
            obtain ⟨r, hr, rfl⟩ := hv
            have hx' := ev_sound T hx ee
            have : ∃ loc cc, E b' = some loc ∧ a.eval x = .slice (some ⟨loc.blk, off, none⟩) n cc := by
              cases cp <;> (simp only [cv, Option.map_eq_some_iff] at hx'; obtain ⟨loc, hloc, hx'⟩ := hx'; exact ⟨loc, _, hloc, hx'.symm⟩)
            obtain ⟨loc, cc, hloc, hx'⟩ := this
            obtain ⟨arr, fz, vs, hw, hcs, htot, hes, ⟨rest, harr, _⟩, _⟩ := R.cells hloc hb0
            have hlen := cvs_length hcs
            have e1 : (arr.toList.drop off).take n = (vs.drop off).take n := by
              rw [harr, List.drop_append_of_le_length (by omega), List.take_append_of_le_length (by simp; omega)]
            have hld := run_load_cells (P := P) hw e1 (by simp; omega)
            obtain ⟨ns, hns, hrr⟩ := bytesOf_sound hr (cvs_take n (cvs_drop off hcs))
            refine ⟨.string ⟨r.toArray⟩, conv _ ?_ _ _ _ hx', by simp [cv]⟩
            simp only [Conv.bytesToString, hx', Sem.run_bind, hld, Result.andThen_ok, ← Array.forIn_toList]
            rw [hns]
            rw [run_pushBytes (P := P) w _ (fun _ _ => rfl) ns ByteArray.empty]
            simp [hrr, ByteArray.empty, ByteArray.emptyWithCapacity]
            rfl
        · simp at ha
      · simp at hc
    · split at hc <;> simp at hc
    · simp at hc
  | call cl =>
    simp only [compOp, Option.bind_eq_some_iff] at hc
    obtain ⟨l, hl, hc⟩ := hc
    obtain ⟨callee, args, argTypes⟩ := cl
    cases callee with
    | value x =>
      cases x with
      | func f => simp only [] at hc; split at hc <;> simp at hc
      | _ => simp only [Option.map_eq_some_iff] at hc; obtain ⟨_, _, hc⟩ := hc; simp at hc
    | invoke x n => simp only [Option.map_eq_some_iff] at hc; obtain ⟨_, _, hc⟩ := hc; simp at hc
    | builtin bt =>
      unfold compBuiltin at hc
      simp only [] at hc
      split at hc
      · rename_i x
        obtain ⟨y, hargs, hy⟩ := compOpds_one hl
        simp only [Option.bind_eq_some_iff] at hc
        obtain ⟨t, ht, hc⟩ := hc
        split at hc
        · simp at hc
        · simp at hc
        · simp at hc
        · split at hc <;> simp at hc
        · rename_i k e hu
          simp only [Option.some.injEq, COp.r.injEq] at hc; subst hc
          have hrun : ∀ n : Nat, (∀ cs : Array Bool, (Builtin.len_ argTypes ty #[a.eval y]).run P w = .ok (goInt n) w) → (execOp a.eval ⟨dst, .call ⟨.builtin .len, args, argTypes⟩, ty, pos, after, guard⟩).run P w = .ok (.value (.int .i64 n)) w := by
            intro n h
            have e : args.map a.eval = #[a.eval y] := by apply Array.ext'; rw [Array.toList_map]; simp only at hargs; rw [hargs]; rfl
            simp only [execOp, resolve, invoke, Sem.run_bind, Sem.run_pure, Result.andThen_ok, e, Go.builtin, h #[], goInt]
          simp only [ard] at ha
          split at ha
          · rename_i ee
            simp only [Option.some.injEq] at ha
            subst ha
            simp only [Rd.get] at hv
            simp only [Option.some.injEq] at hv; subst hv
            have hx' := ev_sound T hy ee
            simp only [cv, Option.some.injEq] at hx'
            exact ⟨_, hrun 0 (fun _ => by simp [Builtin.len_, ht, run_underlying hu, ← hx']), by simp [cv]⟩
          · rename_i b' ee
            simp only [Option.some.injEq] at ha
            subst ha
            simp only [Rd.get] at hv
            cases hb0 : H.get b' with
            | dead => rw [hb0] at hv; simp [sliceBlk, strBlk, lenBlk] at hv
            | cells _ _ _ _ => rw [hb0] at hv; simp [sliceBlk, strBlk, lenBlk] at hv
            | map es =>
              rw [hb0] at hv
              simp only [lenBlk, Option.some.injEq] at hv; subst hv
              have hx' := ev_sound T hy ee
              simp only [cv, Option.map_eq_some_iff] at hx'
              obtain ⟨loc, hloc, hx'⟩ := hx'
              have hbr := R.blk b' loc hloc
              rw [hb0] at hbr
              obtain ⟨arr, clock, hw, hm⟩ := hbr
              have hget : (getObj loc.blk).run P w = .ok (.map arr clock) w := by simp [getObj, Sem.run, hw]
              have hlen : ∀ (es : List (AVal × AVal)) (ms : List (Value × Value)), cvm E es = some ms → es.length = ms.length := by
                intro es
                induction es with
                | nil => intro ms h; simp [cvm] at h; subst h; rfl
                | cons p es ih =>
                  intro ms h
                  obtain ⟨p1, p2⟩ := p
                  simp only [cvm, Option.bind_eq_some_iff, Option.map_eq_some_iff] at h
                  obtain ⟨_, _, _, _, z, hz, rfl⟩ := h
                  simp [ih z hz]
              have hl := hlen es _ hm
              simp only [List.length_map, Array.length_toList] at hl
              exact ⟨_, hrun es.length (fun _ => by simp [Builtin.len_, ht, run_underlying hu, ← hx', hget, hl]), by simp [cv]⟩
          · simp at ha
        · simp at hc
      all_goals
        first
          | (simp at hc; done)
          | (simp only [Option.bind_eq_some_iff] at hc
             obtain ⟨t, ht, hc⟩ := hc
             try (obtain ⟨u, hu, hc⟩ := hc)
             split at hc <;> simp only [Option.bind_eq_some_iff, Option.map_eq_some_iff, reduceCtorEq, Option.some.injEq] at hc <;> (try (obtain ⟨_, _, hc⟩ := hc)) <;> (try (obtain ⟨_, _, hc⟩ := hc)) <;> (try (obtain ⟨_, _, hc⟩ := hc)) <;> (try (split at hc)) <;> (try simp at hc))
  | binOp op t x y ty' =>
    simp only [compOp, Option.bind_eq_some_iff] at hc
    obtain ⟨_, _, _, _, hc⟩ := hc
    split at hc
    · simp only [compEq] at hc; split at hc <;> simp at hc
    · simp only [compEq] at hc; split at hc <;> simp at hc
    · simp at hc
  | build t ps => simp only [compOp] at hc; (repeat' split at hc) <;> simp [Option.bind_eq_some_iff] at hc
  | store t x y => simp [compOp, Option.bind_eq_some_iff] at hc
  | pick x y z => simp [compOp, Option.bind_eq_some_iff] at hc
  | makeFunc _ _ _ => simp [compOp, Option.bind_eq_some_iff] at hc
  | makeInterface _ _ => simp only [compOp] at hc; split at hc <;> simp at hc
  | fieldAddr _ _ _ => simp only [compOp] at hc; split at hc <;> simp only [Option.bind_eq_some_iff, reduceCtorEq] at hc; obtain ⟨_, _, _, _, hc⟩ := hc; split at hc <;> simp at hc
  | field _ _ _ => simp only [compOp] at hc; split at hc <;> simp [Option.bind_eq_some_iff] at hc
  | indexAddr _ _ _ => simp only [compOp, Option.bind_eq_some_iff] at hc; obtain ⟨_, _, _, _, hc⟩ := hc; split at hc <;> simp at hc
  | index _ _ _ => simp only [compOp, Option.bind_eq_some_iff] at hc; obtain ⟨_, _, _, _, hc⟩ := hc; split at hc <;> simp [Option.bind_eq_some_iff] at hc
  | defer cl =>
    simp only [compOp, Option.bind_eq_some_iff] at hc
    obtain ⟨_, _, hc⟩ := hc
    split at hc <;> simp [Option.bind_eq_some_iff] at hc
  | alloc t => simp [compOp] at hc
  | box t x => simp [compOp, Option.bind_eq_some_iff] at hc
  | buildSlice t n ps =>
    simp only [compOp] at hc
    split at hc
    · simp only [Option.bind_eq_some_iff] at hc
      obtain ⟨_, _, _, _, hc⟩ := hc
      split at hc <;> simp at hc
    · simp at hc
  | makeMap t r => simp only [compOp] at hc; split at hc <;> simp at hc
  | insert _ _ _ _ => simp only [compOp] at hc; split at hc <;> simp [Option.bind_eq_some_iff] at hc
  | mapUpdate _ _ _ _ => simp only [compOp] at hc; split at hc <;> simp [Option.bind_eq_some_iff] at hc
  | makeSlice _ _ _ => simp only [compOp] at hc; split at hc <;> simp [Option.bind_eq_some_iff] at hc
  | _ => simp [compOp] at hc
end Go.Eng
