/- The engine, twenty-fifth part: how a function is worked out, by rewriting. -/
import Derived.Test.YtgmaknppneonfaaEngX
import Derived.Attr
set_option linter.unusedSimpArgs false
set_option linter.unusedVariables false
namespace Go.Eng
variable {Φ Ψ : Phi} {τ : Tm} {H : AHeap} {ds : Dfs}

/-! ### Names -/
theorem lk_cons (j : Nat) (v : AVal) (l : Tm) (i : Nat) : lk ((j, v) :: l) i = if i = j then some v else lk l i := by
  simp only [lk]
  by_cases h : i = j
  · subst h; simp
  · rw [if_neg h, if_neg]; intro e; exact h (Nat.eq_of_beq_eq_true e)
theorem ev_t (i : Nat) : ev τ (.t i) = lk τ i := (rfl)
theorem ev_c (v : AVal) : ev τ (.c v) = some v := (rfl)
def evsK : Option AVal → Option (List AVal) → Option (List AVal)
  | some v, some l => some (v :: l)
  | _, _ => none
theorem evs_nil : evs τ [] = some [] := (rfl)
theorem evs_cons (x : Opd) (l : List Opd) : evs τ (x :: l) = evsK (ev τ x) (evs τ l) := by
  simp only [evs]; cases ev τ x <;> cases evs τ l <;> rfl
theorem evsK_some (v : AVal) (l : List AVal) : evsK (some v) (some l) = some (v :: l) := (rfl)
theorem evo_n : evo τ none = some none := (rfl)
def evoK : Option AVal → Option (Option AVal)
  | some v => some (some v)
  | none => none
theorem evo_s (x : Opd) : evo τ (some x) = evoK (ev τ x) := by simp only [evo]; cases ev τ x <;> rfl
theorem evoK_some (v : AVal) : evoK (some v) = some (some v) := (rfl)
def resK (x : Option AVal) (k : Nat) (r : Tm) : Tm := match x with
  | some v => (k, v) :: r
  | none => r
theorem restrict_nil : restrict [] τ = [] := (rfl)
theorem restrict_cons (k : Nat) (l : List Nat) : restrict (k :: l) τ = resK (lk τ k) k (restrict l τ) := by
  simp only [restrict, List.filterMap_cons]; cases lk τ k <;> rfl
theorem resK_some (v : AVal) (k : Nat) (r : Tm) : resK (some v) k r = (k, v) :: r := (rfl)
theorem resK_none (k : Nat) (r : Tm) : resK none k r = r := (rfl)
theorem lk_nil (i : Nat) : lk [] i = none := (rfl)
theorem put_s (d : Nat) (v : AVal) : put (some d) v τ = (d, v) :: τ := (rfl)
theorem put_n (v : AVal) : put none v τ = τ := (rfl)

/-! ### Operations one behind the other -/
abbrev AR := Option (AVal × AHeap × Dfs × Ev)
def thenK (r : AR) (Φ : Phi) (d : Option Nat) (l : List COper) (τ : Tm) : Option ASt := r.bind fun x => arun Φ l ⟨put d x.1 τ, x.2.1, x.2.2.1⟩
def guardK (x : Option AVal) (b : Bool) (Φ : Phi) (d : Option Nat) (op : COp) (l : List COper) (τ : Tm) (H : AHeap) (ds : Dfs) : Option ASt := match x with
  | some (.bool c) => if c = b then thenK (aop Φ op ⟨τ, H, ds⟩) Φ d l τ else arun Φ l ⟨put d undefA τ, H, ds⟩
  | some (.tup []) => arun Φ l ⟨put d undefA τ, H, ds⟩
  | _ => none
theorem arun_nil (s : ASt) : arun Φ [] s = some s := (rfl)
theorem arun_n (d : Option Nat) (op : COp) (l : List COper) : arun Φ (⟨d, op, none⟩ :: l) ⟨τ, H, ds⟩ = thenK (aop Φ op ⟨τ, H, ds⟩) Φ d l τ := by
  simp only [arun, astep, wantedA, thenK]
  cases aop Φ op ⟨τ, H, ds⟩ <;> rfl
theorem arun_g (d : Option Nat) (op : COp) (s : Nat) (b : Bool) (l : List COper) : arun Φ (⟨d, op, some (s, b)⟩ :: l) ⟨τ, H, ds⟩ = guardK (lk τ s) b Φ d op l τ H ds := by
  cases h : lk τ s with
  | none => simp [arun, astep, wantedA, h, guardK]
  | some v =>
    cases v with
    | bool c =>
      simp only [arun, astep, wantedA, h, guardK]
      by_cases e : c = b
      · simp only [e, beq_self_eq_true, if_true, thenK]
        cases aop Φ op ⟨τ, H, ds⟩ <;> rfl
      · have : (c == b) = false := by simp [e]
        simp only [this, e, if_false]; rfl
    | tup l => cases l <;> simp [arun, astep, wantedA, h, guardK]
    | _ => simp [arun, astep, wantedA, h, guardK]
theorem thenK_some (v : AVal) (H' : AHeap) (ds' : Dfs) (e : Ev) (d : Option Nat) (l : List COper) : thenK (some (v, H', ds', e)) Φ d l τ = arun Φ l ⟨put d v τ, H', ds'⟩ := (rfl)
theorem thenK_ite (c : Prop) [Decidable c] (x y : AR) (d : Option Nat) (l : List COper) : thenK (if c then x else y) Φ d l τ = if c then thenK x Φ d l τ else thenK y Φ d l τ := by split <;> rfl
theorem guardK_b (c b : Bool) (d : Option Nat) (op : COp) (l : List COper) : guardK (some (.bool c)) b Φ d op l τ H ds = if c = b then thenK (aop Φ op ⟨τ, H, ds⟩) Φ d l τ else arun Φ l ⟨put d undefA τ, H, ds⟩ := (rfl)
theorem guardK_u (b : Bool) (d : Option Nat) (op : COp) (l : List COper) : guardK (some (.tup [])) b Φ d op l τ H ds = arun Φ l ⟨put d undefA τ, H, ds⟩ := (rfl)

/-! ### What one operation does -/
def pK (x : Option AVal) (H : AHeap) (ds : Dfs) : AR := match x with
  | some v => some (v, H, ds, .p)
  | none => none
theorem aop_p (o : POp) : aop Φ (.p o) ⟨τ, H, ds⟩ = pK (apu τ o) H ds := by simp only [aop]; cases apu τ o <;> rfl
theorem pK_some (v : AVal) : pK (some v) H ds = some (v, H, ds, .p) := (rfl)
theorem pK_ite (c : Prop) [Decidable c] (x y : Option AVal) : pK (if c then x else y) H ds = if c then pK x H ds else pK y H ds := by split <;> rfl
def rK (x : Option Rd) (H : AHeap) (ds : Dfs) : AR := match x with
  | some (.v x) => pK x H ds
  | some (.b b g) => (g (H.get b)).map fun v => (v, H, ds, .r b H.n g v)
  | none => none
def rbK (x : Option AVal) (b : Nat) (g : ABlk → Option AVal) (H : AHeap) (ds : Dfs) : AR := match x with
  | some v => some (v, H, ds, .r b H.n g v)
  | none => none
theorem aop_r (o : ROp) : aop Φ (.r o) ⟨τ, H, ds⟩ = rK (ard τ o) H ds := by
  simp only [aop, rK]
  cases ard τ o with
  | none => rfl
  | some r => cases r with
    | v x => cases x <;> rfl
    | b b g => rfl
theorem rK_v (x : Option AVal) : rK (some (.v x)) H ds = pK x H ds := (rfl)
theorem rK_b (b : Nat) (g : ABlk → Option AVal) : rK (some (.b b g)) H ds = rbK (g (H.get b)) b g H ds := by
  simp only [rK, rbK]; cases g (H.get b) <;> rfl
theorem rbK_some (v : AVal) (b : Nat) (g : ABlk → Option AVal) : rbK (some v) b g H ds = some (v, H, ds, .r b H.n g v) := (rfl)
def aK (x : Option (ABlk × (Nat → AVal))) (H : AHeap) (ds : Dfs) : AR := match x with
  | some (blk, f) => some (f H.n, H.push blk, ds, .a H.n blk)
  | none => none
theorem aop_a (o : AOp) : aop Φ (.a o) ⟨τ, H, ds⟩ = aK (aal τ o) H ds := by simp only [aop, aK]; cases aal τ o <;> rfl
theorem aK_some (blk : ABlk) (f : Nat → AVal) : aK (some (blk, f)) H ds = some (f H.n, H.push blk, ds, .a H.n blk) := (rfl)
def xK (x : Option (AVal × AHeap × Dfs)) (H : AHeap) : AR := match x with
  | some (v, H', ds') => some (v, H', ds', .x H H')
  | none => none
theorem aop_x (o : XOp) : aop Φ (.x o) ⟨τ, H, ds⟩ = xK (axo Φ τ H ds o) H := by simp only [aop, xK]; cases axo Φ τ H ds o <;> rfl
theorem xK_some (v : AVal) (H' : AHeap) (ds' : Dfs) : xK (some (v, H', ds')) H = some (v, H', ds', .x H H') := (rfl)

/-! ### Pure operations -/
theorem beq_dec {α : Type} [BEq α] [LawfulBEq α] [DecidableEq α] (a b : α) : (a == b) = decide (a = b) := by rw [Bool.eq_iff_iff]; simp
theorem apu_val (x : Opd) : apu τ (.val x) = ev τ x := (rfl)
def pickK (c a b : Option AVal) : Option AVal := match c with
  | some (.bool true) => a
  | some (.bool false) => b
  | _ => none
theorem apu_pick (c a b : Opd) : apu τ (.pick c a b) = pickK (ev τ c) (ev τ a) (ev τ b) := (rfl)
theorem pickK_b (c : Bool) (x y : Option AVal) : pickK (some (.bool c)) x y = if c = true then x else y := by cases c <;> rfl
def binK (op : BinOp) (x y : Option AVal) : Option AVal := x.bind fun a => y.bind fun b => abin op a b
theorem apu_bin (op : BinOp) (x y : Opd) : apu τ (.bin op x y) = binK op (ev τ x) (ev τ y) := (rfl)
theorem bin_add (k : IntKind) (a b : Int) : binK .add (some (.int k a)) (some (.int k b)) = some (.int k (k.wrap (a + b))) := by simp [binK, abin, aint]
theorem bin_sub (k : IntKind) (a b : Int) : binK .sub (some (.int k a)) (some (.int k b)) = some (.int k (k.wrap (a - b))) := by simp [binK, abin, aint]
theorem bin_mul (k : IntKind) (a b : Int) : binK .mul (some (.int k a)) (some (.int k b)) = some (.int k (k.wrap (a * b))) := by simp [binK, abin, aint]
theorem bin_quo (k : IntKind) (a b : Int) : binK .quo (some (.int k a)) (some (.int k b)) = if b = 0 then none else some (.int k (k.wrap (a.tdiv b))) := by simp [binK, abin, aint]
theorem bin_rem (k : IntKind) (a b : Int) : binK .rem (some (.int k a)) (some (.int k b)) = if b = 0 then none else some (.int k (a.tmod b)) := by simp [binK, abin, aint]
theorem bin_and (k : IntKind) (a b : Int) : binK .and (some (.int k a)) (some (.int k b)) = some (abits k (· &&& ·) a b) := by simp [binK, abin, aint]
theorem bin_eql (k : IntKind) (a b : Int) : binK .eql (some (.int k a)) (some (.int k b)) = some (.bool (decide (a = b))) := by
  simp only [binK, abin, aint, if_true, Option.bind_some, Option.some.injEq, AVal.bool.injEq]; by_cases h : a = b <;> simp [h]
theorem bin_neq (k : IntKind) (a b : Int) : binK .neq (some (.int k a)) (some (.int k b)) = some (.bool (!decide (a = b))) := by
  simp only [binK, abin, aint, if_true, Option.bind_some, Option.some.injEq, AVal.bool.injEq]; by_cases h : a = b <;> simp [h]
theorem bin_lss (k : IntKind) (a b : Int) : binK .lss (some (.int k a)) (some (.int k b)) = some (.bool (decide (a < b))) := by simp [binK, abin, aint]
theorem bin_leq (k : IntKind) (a b : Int) : binK .leq (some (.int k a)) (some (.int k b)) = some (.bool (decide (a ≤ b))) := by simp [binK, abin, aint]
theorem bin_gtr (k : IntKind) (a b : Int) : binK .gtr (some (.int k a)) (some (.int k b)) = some (.bool (decide (b < a))) := by simp [binK, abin, aint]
theorem bin_geq (k : IntKind) (a b : Int) : binK .geq (some (.int k a)) (some (.int k b)) = some (.bool (decide (b ≤ a))) := by simp [binK, abin, aint]
def eqvK (neg : Bool) (k : EqK) (x y : Option AVal) : Option AVal := x.bind fun a => y.bind fun b => (aeq k a b).map fun r => .bool (if neg then !r else r)
theorem apu_eqv (neg : Bool) (k : EqK) (x y : Opd) : apu τ (.eqv neg k x y) = eqvK neg k (ev τ x) (ev τ y) := (rfl)
def negB (neg : Bool) (r : Bool) : Bool := if neg then !r else r
theorem negB_f (r : Bool) : negB false r = r := (rfl)
theorem negB_t (r : Bool) : negB true r = !r := (rfl)
theorem eqv_bool (neg a b : Bool) : eqvK neg (.cell .bool) (some (.bool a)) (some (.bool b)) = some (.bool (negB neg (a == b))) := (rfl)
theorem eqv_int (neg : Bool) (k : IntKind) (a b : Int) : eqvK neg (.cell (.int k)) (some (.int k a)) (some (.int k b)) = some (.bool (negB neg (decide (a = b)))) := by
  simp only [eqvK, aeq, cellEq, if_true, Option.bind_some, Option.map_some, negB, beq_dec]
theorem eqv_str (neg : Bool) (a b : List UInt8) : eqvK neg (.cell .str) (some (.str a)) (some (.str b)) = some (.bool (negB neg (decide (a = b)))) := by
  simp only [eqvK, aeq, cellEq, if_true, Option.bind_some, Option.map_some, negB, beq_dec]
theorem eqv_pn (neg : Bool) (b o : Nat) : eqvK neg .ptr (some (.ptr b o)) (some .nilp) = some (.bool (negB neg false)) := (rfl)
theorem eqv_np (neg : Bool) (b o : Nat) : eqvK neg .ptr (some .nilp) (some (.ptr b o)) = some (.bool (negB neg false)) := (rfl)
theorem eqv_nn (neg : Bool) : eqvK neg .ptr (some .nilp) (some .nilp) = some (.bool (negB neg true)) := (rfl)
theorem isCell_raw (a : Option Addr) (n c : Nat) : (AVal.raw (.slice a n c)).isCell = true := (rfl)
def eqvC (neg : Bool) (r : Option Bool) : Option AVal := r.map fun r => .bool (negB neg r)
theorem eqv_agg (neg : Bool) (cs : List CT) (a b : List AVal) : eqvK neg (.agg cs) (some (.agg a)) (some (.agg b)) = eqvC neg (cellsEq cs a b) := (rfl)
theorem eqvC_some (neg r : Bool) : eqvC neg (some r) = some (.bool (negB neg r)) := (rfl)
def andK (q : Bool) (r : Option Bool) : Option Bool := r.map fun r => q && r
theorem andK_some (q r : Bool) : andK q (some r) = some (q && r) := (rfl)
theorem cellsEq_nil : cellsEq [] [] [] = some true := (rfl)
theorem cellsEq_int (k : IntKind) (cs : List CT) (a b : Int) (l m : List AVal) : cellsEq (.int k :: cs) (.int k a :: l) (.int k b :: m) = andK (decide (a = b)) (cellsEq cs l m) := by
  simp only [cellsEq, cellEq, if_true, Option.bind_some, andK, beq_dec]
theorem cellsEq_bool (cs : List CT) (a b : Bool) (l m : List AVal) : cellsEq (.bool :: cs) (.bool a :: l) (.bool b :: m) = andK (a == b) (cellsEq cs l m) := by
  simp only [cellsEq, cellEq, if_true, Option.bind_some, andK]
theorem cellsEq_str (cs : List CT) (a b : List UInt8) (l m : List AVal) : cellsEq (.str :: cs) (.str a :: l) (.str b :: m) = andK (decide (a = b)) (cellsEq cs l m) := by
  simp only [cellsEq, cellEq, if_true, Option.bind_some, andK, beq_dec]
def unK (op : UnOp) (x : Option AVal) : Option AVal := x.bind fun a => aun op a
theorem apu_un (op : UnOp) (x : Opd) : apu τ (.un op x) = unK op (ev τ x) := (rfl)
theorem un_not (b : Bool) : unK .not (some (.bool b)) = some (.bool (!b)) := (rfl)
theorem un_neg (k : IntKind) (n : Int) : unK .neg (some (.int k n)) = some (.int k (k.wrap (0 - n))) := (rfl)
def convK (k : IntKind) (x : Option AVal) : Option AVal := match x with | some (.int _ n) => some (.int k (k.wrap n)) | _ => none
theorem apu_conv (k : IntKind) (x : Opd) : apu τ (.conv k x) = convK k (ev τ x) := (rfl)
theorem conv_int (k j : IntKind) (n : Int) : convK k (some (.int j n)) = some (.int k (k.wrap n)) := (rfl)
def fieldAK (off : Nat) (x : Option AVal) : Option AVal := match x with | some (.ptr b o) => some (.ptr b (o + off)) | _ => none
theorem apu_fieldA (off : Nat) (x : Opd) : apu τ (.fieldA off x) = fieldAK off (ev τ x) := (rfl)
theorem fieldA_ptr (off b o : Nat) : fieldAK off (some (.ptr b o)) = some (.ptr b (o + off)) := (rfl)
def fieldK (agg : Bool) (off n : Nat) (x : Option AVal) : Option AVal := match x with | some (.agg cs) => partA agg cs off n | _ => none
theorem apu_field (agg : Bool) (off n : Nat) (x : Opd) : apu τ (.field agg off n x) = fieldK agg off n (ev τ x) := (rfl)
theorem field_agg (agg : Bool) (off n : Nat) (cs : List AVal) : fieldK agg off n (some (.agg cs)) = partA agg cs off n := (rfl)
theorem partA_f (cs : List AVal) (off n : Nat) : partA false cs off n = cs[off]? := (rfl)
theorem partA_t (cs : List AVal) (off n : Nat) : partA true cs off n = if off + n ≤ cs.length then some (.agg ((cs.drop off).take n)) else none := (rfl)
def buildK (x : Option (List AVal)) : Option AVal := x.map .agg
theorem apu_build (zero : List AVal) (parts : List (Nat × Nat × Opd)) : apu τ (.build zero parts) = buildK (fillA τ parts zero) := (rfl)
theorem buildK_some (l : List AVal) : buildK (some l) = some (.agg l) := (rfl)
def fillK (τ : Tm) (off sz : Nat) (v : Option AVal) (r : List (Nat × Nat × Opd)) (cs : List AVal) : Option (List AVal) :=
  v.bind fun v => if v.cells.length = sz ∧ off + sz ≤ cs.length then fillA τ r (placeA cs off v.cells) else none
theorem fillA_nil (cs : List AVal) : fillA τ [] cs = some cs := (rfl)
theorem fillA_cons (off sz : Nat) (x : Opd) (r : List (Nat × Nat × Opd)) (cs : List AVal) : fillA τ ((off, sz, x) :: r) cs = fillK τ off sz (ev τ x) r cs := (rfl)
theorem fillK_some (off sz : Nat) (v : AVal) (r : List (Nat × Nat × Opd)) (cs : List AVal) : fillK τ off sz (some v) r cs = if v.cells.length = sz ∧ off + sz ≤ cs.length then fillA τ r (placeA cs off v.cells) else none := (rfl)
def indexSK (es : Nat) (x i : Option AVal) : Option AVal := match x, i with
  | some (.sl b o n _), some (.int _ i) => if 0 ≤ i ∧ i < (n : Int) then some (.ptr b (o + i.toNat * es)) else none
  | _, _ => none
theorem apu_indexS (es : Nat) (x i : Opd) : apu τ (.indexS es x i) = indexSK es (ev τ x) (ev τ i) := (rfl)
theorem indexS_sl (es b o n : Nat) (c : Option Nat) (k : IntKind) (i : Int) : indexSK es (some (.sl b o n c)) (some (.int k i)) = if 0 ≤ i ∧ i < (n : Int) then some (.ptr b (o + i.toNat * es)) else none := (rfl)
def indexAK (len es : Nat) (x i : Option AVal) : Option AVal := match x, i with
  | some (.ptr b o), some (.int _ i) => if 0 ≤ i ∧ i < (len : Int) then some (.ptr b (o + i.toNat * es)) else none
  | _, _ => none
theorem apu_indexA (len es : Nat) (x i : Opd) : apu τ (.indexA len es x i) = indexAK len es (ev τ x) (ev τ i) := (rfl)
theorem indexA_ptr (len es b o : Nat) (k : IntKind) (i : Int) : indexAK len es (some (.ptr b o)) (some (.int k i)) = if 0 ≤ i ∧ i < (len : Int) then some (.ptr b (o + i.toNat * es)) else none := (rfl)
def indexGK (len es : Nat) (agg : Bool) (x i : Option AVal) : Option AVal := match x, i with
  | some (.agg cs), some (.int _ i) => if 0 ≤ i ∧ i < (len : Int) then partA agg cs (i.toNat * es) es else none
  | _, _ => none
theorem apu_indexG (len es : Nat) (agg : Bool) (x i : Opd) : apu τ (.indexG len es agg x i) = indexGK len es agg (ev τ x) (ev τ i) := (rfl)
theorem indexG_agg (len es : Nat) (agg : Bool) (cs : List AVal) (k : IntKind) (i : Int) : indexGK len es agg (some (.agg cs)) (some (.int k i)) = if 0 ≤ i ∧ i < (len : Int) then partA agg cs (i.toNat * es) es else none := (rfl)
def extractK (x : Option AVal) (i : Nat) : Option AVal := match x with | some (.tup vs) => vs[i]? | _ => none
theorem apu_extract (x : Opd) (i : Nat) : apu τ (.extract x i) = extractK (ev τ x) i := (rfl)
theorem extract_tup (l : List AVal) (i : Nat) : extractK (some (.tup l)) i = l[i]? := (rfl)
def lenK (x : Option AVal) : Option AVal := match x with
  | some (.sl _ _ n _) => some (.int .i64 n)
  | some (.etail ..) => some (.int .i64 0)
  | some .nils => some (.int .i64 0)
  | some (.raw (.slice _ n _)) => some (.int .i64 n)
  | _ => none
theorem apu_len (x : Opd) : apu τ (.len x) = lenK (ev τ x) := (rfl)
theorem len_sl (b o n : Nat) (c : Option Nat) : lenK (some (.sl b o n c)) = some (.int .i64 n) := (rfl)
theorem len_raw (a : Option Addr) (n c : Nat) : lenK (some (.raw (.slice a n c))) = some (.int .i64 n) := (rfl)
theorem len_nils : lenK (some .nils) = some (.int .i64 0) := (rfl)
theorem apu_lenC (n : Nat) : apu τ (.lenC n) = some (.int .i64 n) := (rfl)
def lenTK (x : Option AVal) : Option AVal := match x with
  | some (.str s) => some (.int .i64 s.length)
  | _ => none
theorem apu_lenT (x : Opd) : apu τ (.lenT x) = lenTK (ev τ x) := (rfl)
theorem lenT_str (s : List UInt8) : lenTK (some (.str s)) = some (.int .i64 s.length) := (rfl)
def nilCheckK (x : Option AVal) : Option AVal := x.bind fun v => match v with | .ptr .. | .iface .. => some v | .fn (.func f) a c => some (.fn (.func f) a c) | _ => none
theorem apu_nilCheck (x : Opd) : apu τ (.nilCheck x) = nilCheckK (ev τ x) := (rfl)
theorem nilCheck_ptr (b o : Nat) : nilCheckK (some (.ptr b o)) = some (.ptr b o) := (rfl)
def maxK (x : Option (List AVal)) : Option AVal := x.bind (amax true)
def minK (x : Option (List AVal)) : Option AVal := x.bind (amax false)
theorem apu_max (l : List Opd) : apu τ (.max l) = maxK (evs τ l) := (rfl)
theorem apu_min (l : List Opd) : apu τ (.min l) = minK (evs τ l) := (rfl)
theorem maxK_two (k j : IntKind) (a b : Int) : maxK (some [.int k a, .int j b]) = some (.int k (if a < b then b else a)) := (rfl)
theorem minK_two (k j : IntKind) (a b : Int) : minK (some [.int k a, .int j b]) = some (.int k (if b < a then b else a)) := (rfl)
def mkIfaceK (t : TypeId) (x : Option AVal) : Option AVal := x.map fun v => .iface t v
theorem apu_mkIface (t : TypeId) (x : Opd) : apu τ (.mkIface t x) = mkIfaceK t (ev τ x) := (rfl)
theorem mkIface_some (t : TypeId) (v : AVal) : mkIfaceK t (some v) = some (.iface t v) := (rfl)

/-! ### Reads, makings, writes, calls -/
def loadK (agg : Bool) (n : Nat) (x : Option AVal) : Option Rd := match x with
  | some (.ptr b o) => some (.b b (ABlk.read agg o n))
  | _ => none
theorem ard_load (agg : Bool) (n : Nat) (x : Opd) : ard τ (.load agg n x) = loadK agg n (ev τ x) := (rfl)
theorem load_ptr (agg : Bool) (n b o : Nat) : loadK agg n (some (.ptr b o)) = some (.b b (ABlk.read agg o n)) := (rfl)
theorem read_cells (agg : Bool) (o n : Nat) (l : List AVal) (e : TypeId) (es : Nat) (m : Mode) : ABlk.read agg o n (.cells l e es m) = partA agg l o n := (rfl)
def boxK (elem : TypeId) (es : Nat) (x : Option AVal) : Option (ABlk × (Nat → AVal)) := x.bind fun v => if v.cells.all AVal.isCell then some (.cells v.cells elem es .fixed, fun b => .ptr b 0) else none
theorem aal_box (elem : TypeId) (es : Nat) (x : Opd) : aal τ (.box elem es x) = boxK elem es (ev τ x) := (rfl)
theorem boxK_some (elem : TypeId) (es : Nat) (v : AVal) : boxK elem es (some v) = if v.cells.all AVal.isCell = true then some (.cells v.cells elem es .fixed, fun b => .ptr b 0) else none := (rfl)
theorem aal_alloc (elem : TypeId) (zero : List AVal) : aal τ (.alloc elem zero) = if zero.all AVal.isCell = true then some (.cells zero elem zero.length .fixed, fun b => .ptr b 0) else none := (rfl)
def bslK (elem : TypeId) (es len : Nat) (x : Option (List AVal)) : Option (ABlk × (Nat → AVal)) := x.bind fun cs => if cs.all AVal.isCell then some (.cells cs elem es .fixed, fun b => .sl b 0 len (some len)) else none
theorem aal_bsl (elem : TypeId) (es : Nat) (init : List AVal) (len : Nat) (parts : List (Nat × Nat × Opd)) : aal τ (.buildSlice elem es init len parts) = bslK elem es len (fillA τ parts init) := (rfl)
theorem bslK_some (elem : TypeId) (es len : Nat) (cs : List AVal) : bslK elem es len (some cs) = if cs.all AVal.isCell = true then some (.cells cs elem es .fixed, fun b => .sl b 0 len (some len)) else none := (rfl)
theorem aK_ite (c : Prop) [Decidable c] (x y : Option (ABlk × (Nat → AVal))) : aK (if c then x else y) H ds = if c then aK x H ds else aK y H ds := by split <;> rfl
def storeK (n : Nat) (H : AHeap) (ds : Dfs) (x v : Option AVal) : Option (AVal × AHeap × Dfs) := match x with
  | some (.ptr b o) => v.bind fun v => if v.cells.length = n then (H.store b o v.cells).map fun H' => (undefA, H', ds) else none
  | _ => none
theorem axo_store (n : Nat) (x v : Opd) : axo Φ τ H ds (.store n x v) = storeK n H ds (ev τ x) (ev τ v) := (rfl)
def stK (ds : Dfs) (x : Option AHeap) : Option (AVal × AHeap × Dfs) := x.map fun H' => (undefA, H', ds)
theorem store_ptr (n b o : Nat) (v : AVal) : storeK n H ds (some (.ptr b o)) (some v) = if v.cells.length = n then stK ds (H.store b o v.cells) else none := (rfl)
theorem stK_some (H' : AHeap) : stK ds (some H') = some (undefA, H', ds) := (rfl)
theorem stK_ite (c : Prop) [Decidable c] (x y : Option AHeap) : stK ds (if c then x else y) = if c then stK ds x else stK ds y := by split <;> rfl
theorem xK_ite (c : Prop) [Decidable c] (x y : Option (AVal × AHeap × Dfs)) : xK (if c then x else y) H = if c then xK x H else xK y H := by split <;> rfl
def storeB (H : AHeap) (b off : Nat) (vs : List AVal) (x : ABlk) : Option AHeap := match x with
  | .cells l e s m => if m ≠ .ro ∧ off + vs.length ≤ l.length ∧ vs.all AVal.isCell = true then some (H.set b (.cells (placeA l off vs) e s m)) else none
  | _ => none
theorem store_eq (b off : Nat) (vs : List AVal) : H.store b off vs = storeB H b off vs (H.get b) := by
  unfold AHeap.store storeB; rfl
theorem storeB_cells (b off : Nat) (vs l : List AVal) (e : TypeId) (s : Nat) (m : Mode) : storeB H b off vs (.cells l e s m) = if m ≠ .ro ∧ off + vs.length ≤ l.length ∧ vs.all AVal.isCell = true then some (H.set b (.cells (placeA l off vs) e s m)) else none := (rfl)
def callK (Φ : Phi) (f : FuncId) (H : AHeap) (ds : Dfs) (x : Option (List AVal)) : Option (AVal × AHeap × Dfs) := x.bind fun l => (Φ f l H).map fun (v, H') => (v, H', ds)
def callR (ds : Dfs) (x : Option (AVal × AHeap)) : Option (AVal × AHeap × Dfs) := x.map fun (v, H') => (v, H', ds)
theorem axo_call (f : FuncId) (l : List Opd) : axo Φ τ H ds (.callF f l) = callK Φ f H ds (evs τ l) := (rfl)
theorem callK_some (f : FuncId) (l : List AVal) : callK Φ f H ds (some l) = callR ds (Φ f l H) := (rfl)
theorem callR_some (v : AVal) (H' : AHeap) : callR ds (some (v, H')) = some (v, H', ds) := (rfl)

/-! ### Code -/
def seqK (r : Option (AEx × ASt)) (Φ : Phi) (b : CCode) : Option (AEx × ASt) := r.bind fun (e, s') => match e with
    | .normal => aden Φ b s'
    | e => some (e, s')
theorem aden_skip (s : ASt) : aden Φ .skip s = some (.normal, s) := (rfl)
theorem aden_exit (id : Nat) (s : ASt) : aden Φ (.exit id) s = some (.exit id, s) := (rfl)
theorem aden_ret (s : ASt) : aden Φ .ret s = some (.ret, s) := (rfl)
theorem aden_seq (a b : CCode) (s : ASt) : aden Φ (.seq a b) s = seqK (aden Φ a s) Φ b := (rfl)
theorem seqK_n (s : ASt) (b : CCode) : seqK (some (.normal, s)) Φ b = aden Φ b s := (rfl)
theorem seqK_e (id : Nat) (s : ASt) (b : CCode) : seqK (some (.exit id, s)) Φ b = some (.exit id, s) := (rfl)
theorem seqK_r (s : ASt) (b : CCode) : seqK (some (.ret, s)) Φ b = some (.ret, s) := (rfl)
theorem seqK_ite (c : Prop) [Decidable c] (x y : Option (AEx × ASt)) (b : CCode) : seqK (if c then x else y) Φ b = if c then seqK x Φ b else seqK y Φ b := by split <;> rfl
def regK (keep : List Nat) (r : Option ASt) : Option (AEx × ASt) := match r with
  | some ⟨τ, H, ds⟩ => some (.normal, ⟨restrict keep τ, H, ds⟩)
  | none => none
theorem aden_region (keep : List Nat) (ops : List COper) (s : ASt) : aden Φ (.region keep ops) s = regK keep (arun Φ ops s) := by
  simp only [aden, regK]; cases arun Φ ops s <;> rfl
theorem regK_some (keep : List Nat) : regK keep (some ⟨τ, H, ds⟩) = some (.normal, ⟨restrict keep τ, H, ds⟩) := (rfl)
theorem regK_ite (keep : List Nat) (c : Prop) [Decidable c] (x y : Option ASt) : regK keep (if c then x else y) = if c then regK keep x else regK keep y := by split <;> rfl
def condK (c : Option AVal) (Φ : Phi) (a b : CCode) (τ : Tm) (H : AHeap) (ds : Dfs) : Option (AEx × ASt) := match c with
  | some (.bool true) => aden Φ a ⟨τ, H, ds⟩
  | some (.bool false) => aden Φ b ⟨τ, H, ds⟩
  | _ => none
theorem aden_cond (c : Opd) (a b : CCode) : aden Φ (.cond c a b) ⟨τ, H, ds⟩ = condK (ev τ c) Φ a b τ H ds := (rfl)
theorem condK_b (c : Bool) (a b : CCode) : condK (some (.bool c)) Φ a b τ H ds = if c = true then aden Φ a ⟨τ, H, ds⟩ else aden Φ b ⟨τ, H, ds⟩ := by cases c <;> rfl
def blkK (id : Nat) (r : Option (AEx × ASt)) : Option (AEx × ASt) := r.map fun (e, s') => (e.inBlock id, s')
theorem aden_block (id : Nat) (b : CCode) (s : ASt) : aden Φ (.block id b) s = blkK id (aden Φ b s) := (rfl)
theorem blkK_n (id : Nat) (s : ASt) : blkK id (some (.normal, s)) = some (.normal, s) := (rfl)
theorem blkK_r (id : Nat) (s : ASt) : blkK id (some (.ret, s)) = some (.ret, s) := (rfl)
theorem blkK_e (id j : Nat) (s : ASt) : blkK id (some (.exit j, s)) = if j = id then some (.normal, s) else some (.exit j, s) := by
  simp only [blkK, Option.map_some, AEx.inBlock]
  by_cases h : j = id
  · subst h; simp
  · have : Nat.beq j id = false := by cases hb : Nat.beq j id with | true => exact absurd (Nat.eq_of_beq_eq_true hb) h | false => rfl
    simp [this, h]
theorem blkK_ite (id : Nat) (c : Prop) [Decidable c] (x y : Option (AEx × ASt)) : blkK id (if c then x else y) = if c then blkK id x else blkK id y := by split <;> rfl
theorem aden_loop (b : CCode) (s : ASt) : aden Φ (.loop b) s = iter (aden Φ b) fuel s := (rfl)
def denK (Ψ : Phi) (res : List CRes) (r : Option (AEx × ASt)) : Option (AVal × AHeap) := r.bind fun (e, s) => match e with
      | .exit _ => none
      | _ => (runDfs Ψ s.ds s.H).bind fun H' => (resA s.tm H' res).map fun l => (tupA l, H')
theorem denF_eq (np : Nat) (code : CCode) (res : List CRes) (args : List AVal) : denF Φ Ψ ⟨np, code, res⟩ args H = if args.length = np then denK Ψ res (aden Φ code ⟨enum 0 args, H, []⟩) else none := (rfl)
def ansK (H : AHeap) (l : Option (List AVal)) : Option (AVal × AHeap) := l.map fun l => (tupA l, H)
theorem denK_n (res : List CRes) : denK Ψ res (some (.normal, ⟨τ, H, []⟩)) = ansK H (resA τ H res) := (rfl)
theorem denK_r (res : List CRes) : denK Ψ res (some (.ret, ⟨τ, H, []⟩)) = ansK H (resA τ H res) := (rfl)
theorem denK_ite (res : List CRes) (c : Prop) [Decidable c] (x y : Option (AEx × ASt)) : denK Ψ res (if c then x else y) = if c then denK Ψ res x else denK Ψ res y := by split <;> rfl
theorem ansK_some (l : List AVal) : ansK H (some l) = some (tupA l, H) := (rfl)
theorem tupA_one (v : AVal) : tupA [v] = v := (rfl)
theorem tupA_nil : tupA [] = .tup [] := (rfl)
theorem tupA_two (v u : AVal) (l : List AVal) : tupA (v :: u :: l) = .tup (v :: u :: l) := (rfl)
theorem resA_nil : resA τ H [] = some [] := (rfl)
theorem resA_t (i : Nat) (l : List CRes) : resA τ H (.t i :: l) = evsK (lk τ i) (resA τ H l) := by
  simp only [resA]; cases lk τ i <;> cases resA τ H l <;> rfl
def resC (agg : Bool) (n : Nat) (H : AHeap) (x : Option AVal) : Option AVal := match x with
  | some (.ptr b o) => ABlk.read agg o n (H.get b)
  | _ => none
theorem resA_c (i : Nat) (agg : Bool) (n : Nat) (l : List CRes) : resA τ H (.cell i agg n :: l) = evsK (resC agg n H (lk τ i)) (resA τ H l) := by
  simp only [resA, resC]
  cases h : lk τ i with
  | none => rfl
  | some v =>
    cases v with
    | ptr b o => simp only []; cases ABlk.read agg o n (H.get b) <;> cases resA τ H l <;> rfl
    | _ => rfl
theorem resC_ptr (agg : Bool) (n b o : Nat) : resC agg n H (some (.ptr b o)) = ABlk.read agg o n (H.get b) := (rfl)
theorem enum_nil (i : Nat) : enum i [] = [] := (rfl)
theorem enum_cons (i : Nat) (v : AVal) (l : List AVal) : enum i (v :: l) = (i, v) :: enum (i + 1) l := (rfl)
theorem get_push_self (x : ABlk) : (H.push x).get H.n = x := by rw [AHeap.get_push, if_pos rfl]
theorem get_push_lt (x : ABlk) {c : Nat} (h : c < H.n) : (H.push x).get c = H.get c := by rw [AHeap.get_push, if_neg (by omega)]
theorem get_set_self (x : ABlk) (b : Nat) : (H.set b x).get b = x := by rw [AHeap.get_set, if_pos rfl]
theorem get_set_ne (x : ABlk) {b c : Nat} (h : c ≠ b) : (H.set b x).get c = H.get c := by rw [AHeap.get_set, if_neg h]
theorem cells_agg (l : List AVal) : AVal.cells (.agg l) = l := (rfl)
theorem cells_int (k : IntKind) (n : Int) : AVal.cells (.int k n) = [.int k n] := (rfl)
theorem cells_bool (n : Bool) : AVal.cells (.bool n) = [.bool n] := (rfl)
theorem cells_str (n : List UInt8) : AVal.cells (.str n) = [.str n] := (rfl)
theorem cells_ptr (b o : Nat) : AVal.cells (.ptr b o) = [.ptr b o] := (rfl)
theorem cells_nilp : AVal.cells .nilp = [.nilp] := (rfl)
theorem cells_nils : AVal.cells .nils = [.nils] := (rfl)
theorem cells_sl (b o n : Nat) (c : Option Nat) : AVal.cells (.sl b o n c) = [.sl b o n c] := (rfl)
theorem isCell_int (k : IntKind) (n : Int) : AVal.isCell (.int k n) = true := (rfl)
theorem isCell_bool (n : Bool) : AVal.isCell (.bool n) = true := (rfl)
theorem isCell_str (n : List UInt8) : AVal.isCell (.str n) = true := (rfl)
theorem isCell_ptr (b o : Nat) : AVal.isCell (.ptr b o) = true := (rfl)
theorem isCell_nilp : AVal.isCell .nilp = true := (rfl)
theorem isCell_nils : AVal.isCell .nils = true := (rfl)
theorem isCell_sl (b o n : Nat) (c : Option Nat) : AVal.isCell (.sl b o n c) = true := (rfl)
theorem placeA_eq (cs : List AVal) (off : Nat) (vs : List AVal) : placeA cs off vs = cs.take off ++ vs ++ cs.drop (off + vs.length) := (rfl)
theorem ans {v v' : AVal} {H0 H1 : AHeap} (hv : v = v') (hg : Grew H0 H1) : ∃ H', some (v, H1) = some (v', H') ∧ Grew H0 H' := ⟨H1, by rw [hv], hg⟩
theorem ans_int {k : IntKind} {a b : Int} {H0 H1 : AHeap} (hv : a = b) (hg : Grew H0 H1) : ∃ H', some (AVal.int k a, H1) = some (AVal.int k b, H') ∧ Grew H0 H' := ⟨H1, by rw [hv], hg⟩
theorem ans_bool {a b : Bool} {H0 H1 : AHeap} (hv : a = b) (hg : Grew H0 H1) : ∃ H', some (AVal.bool a, H1) = some (AVal.bool b, H') ∧ Grew H0 H' := ⟨H1, by rw [hv], hg⟩
theorem updP_eq (Φ : Phi) (f : FuncId) (ψ : List AVal → AHeap → Option (AVal × AHeap)) (g : FuncId) (l : List AVal) (H : AHeap) : updP Φ f ψ g l H = if g = f then ψ l H else Φ g l H := by
  unfold updP; split <;> rfl
def specK (φ : List AVal → AHeap → Option (AVal × AHeap)) (l : List AVal) (H : AHeap) (x : Option AVal) : Option (AVal × AHeap) := x.map fun v => (v, H.bump (kc φ l H))
theorem spec_eq (φ : List AVal → AHeap → Option (AVal × AHeap)) (r : List AVal → AHeap → Option AVal) (l : List AVal) : spec φ r l H = specK φ l H (r l H) := (rfl)
theorem specK_some (φ : List AVal → AHeap → Option (AVal × AHeap)) (l : List AVal) (v : AVal) : specK φ l H (some v) = some (v, H.bump (kc φ l H)) := (rfl)
def pspecK (H : AHeap) (x : Option AVal) : Option (AVal × AHeap) := x.map fun v => (v, H)
theorem pspec_eq (r : List AVal → Option AVal) (l : List AVal) : pspec r l H = pspecK H (r l) := (rfl)
theorem pspecK_some (v : AVal) : pspecK H (some v) = some (v, H) := (rfl)
theorem heap0_n : heap0.n = 0 := (rfl)
theorem heap0_get (b : Nat) : heap0.get b = .dead := (rfl)
theorem ansE {v v' : AVal} {H1 : AHeap} (hv : v = v') : ∃ H', some (v, H1) = some (v', H') := ⟨H1, by rw [hv]⟩
theorem ansE_int {k : IntKind} {a b : Int} {H1 : AHeap} (hv : a = b) : ∃ H', some (AVal.int k a, H1) = some (AVal.int k b, H') := ⟨H1, by rw [hv]⟩
theorem ansE_bool {a b : Bool} {H1 : AHeap} (hv : a = b) : ∃ H', some (AVal.bool a, H1) = some (AVal.bool b, H') := ⟨H1, by rw [hv]⟩
attribute [go_sem] pspec_eq pspecK_some heap0_n heap0_get AHeap.get_push AHeap.get_set updP_eq spec_eq specK_some lk_cons ev_t ev_c evs_nil evs_cons evsK_some evo_n evo_s evoK_some restrict_nil restrict_cons resK_some resK_none lk_nil put_s put_n arun_nil arun_n arun_g thenK_some thenK_ite guardK_b guardK_u
  aop_p pK_some pK_ite aop_r rK_v rK_b rbK_some aop_a aK_some aop_x xK_some apu_val apu_pick pickK_b apu_bin bin_add bin_sub bin_mul bin_quo bin_rem bin_and bin_eql bin_neq bin_lss bin_leq bin_gtr bin_geq
  apu_eqv negB_f negB_t eqv_bool eqv_int eqv_str eqv_agg eqvC_some andK_some cellsEq_nil cellsEq_int cellsEq_bool cellsEq_str apu_un un_not un_neg apu_conv conv_int apu_fieldA fieldA_ptr apu_field field_agg partA_f partA_t
  apu_build buildK_some fillA_nil fillA_cons fillK_some apu_indexS indexS_sl apu_indexA indexA_ptr apu_indexG indexG_agg apu_extract extract_tup eqv_pn eqv_np eqv_nn isCell_raw apu_len len_sl len_nils len_raw apu_lenC apu_lenT lenT_str apu_nilCheck nilCheck_ptr
  apu_max apu_min maxK_two minK_two apu_mkIface mkIface_some ard_load load_ptr read_cells aal_box boxK_some aal_alloc aal_bsl bslK_some aK_ite axo_store store_ptr stK_some stK_ite xK_ite store_eq storeB_cells
  axo_call callK_some callR_some aden_skip aden_exit aden_ret aden_seq seqK_n seqK_e seqK_r seqK_ite aden_region regK_some regK_ite aden_cond condK_b aden_block blkK_n blkK_r blkK_e blkK_ite aden_loop
  denF_eq denK_n denK_r denK_ite ansK_some tupA_one tupA_nil tupA_two resA_nil resA_t resA_c resC_ptr enum_nil enum_cons 
  cells_agg cells_int cells_bool cells_str cells_ptr cells_nilp cells_nils cells_sl isCell_int isCell_bool isCell_str isCell_ptr isCell_nilp isCell_nils isCell_sl placeA_eq AHeap.n_push AHeap.n_bump AHeap.n_set AHeap.get_bump
end Go.Eng
