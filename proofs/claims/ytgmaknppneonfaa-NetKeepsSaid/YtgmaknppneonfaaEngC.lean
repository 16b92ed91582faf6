/- The engine, third part: from the model's code to the engine's. -/
import Derived.Test.YtgmaknppneonfaaEngB
namespace Go.Eng

def ofV : Nat → Value → Option AVal
  | _, .bool b => some (.bool b)
  | _, .int k n => some (.int k n)
  | _, .string s => some (.str s.data.toList)
  | _, .pointer none => some .nilp
  | _, .slice none 0 0 => some .nils
  | _, .map none => some .nilm
  | _, .nilFunc => some .nilfn
  | _, .nilIface => some .nili
  | n + 1, .agg cs => (cs.toList.mapM (ofV n)).map .agg
  | n + 1, .tuple cs => (cs.toList.mapM (ofV n)).map .tup
  | _, _ => none
def compOpd : Operand → Option Opd
  | .tmp t => some (.t t)
  | .const v => (ofV 3 v).map .c
  | .func f => some (.c (.fn (.func f) [] []))
  | .global _ => none
def compOpds (l : List Operand) : Option (List Opd) := l.mapM compOpd
def compOpt : Option Operand → Option (Option Opd)
  | none => some none
  | some x => (compOpd x).map some
variable (P : Program)
def aggT (t : TypeId) : Bool := match P.underlying t with | some (.struct _) | some (.array ..) => true | _ => false
def sizeT (t : TypeId) : Option Nat := (P.info? t).map (·.size)
def bytesT (t : TypeId) : Option Nat := (P.info? t).map (·.bytes)
def zeroV (t : TypeId) : Option AVal := ((P.info? t).bind (·.zero)).bind (ofV 3)
def zeroC (t : TypeId) : Option (List AVal) := (zeroV P t).map (·.cells)
def ctOf (t : TypeId) : Option CT := match P.underlying t with
  | some .bool => some .bool
  | some (.int k) => some (.int k)
  | some .string => some .str
  | _ => none
/-- The cells of a type that is compared cell by cell. -/
def flatFields (f : TypeId → Option (List CT)) : Nat → List Field → Option (List CT)
  | _, [] => some []
  | n, g :: gs => if g.name ≠ "_" ∧ g.offset = n then (f g.type).bind fun a => if sizeT P g.type = some a.length then (flatFields f (n + a.length) gs).map (a ++ ·) else none else none
def flat : Nat → TypeId → Option (List CT)
  | 0, _ => none
  | d + 1, t => match P.underlying t with
    | some (.struct fs) => if P.stoodInHeld t then none else flatFields P (flat d) 0 fs.toList
    | some (.array n e) => (flat d e).bind fun a => if sizeT P e = some a.length then some (List.replicate n a).flatten else none
    | _ => (ctOf P t).map fun c => [c]
def eqK (t : TypeId) : Option EqK := match P.underlying t with
  | some .bool => some (.cell .bool)
  | some (.pointer _) => some .ptr
  | some (.slice _) => some .slice
  | some (.map _ _) => some .map
  | some (.func ..) => some .func
  | some (.interface _) => some .iface
  | some (.struct _) | some (.array ..) => if P.eqGuardType P.depth t then none else (flat P 20 t).map .agg
  | _ => none
def compEq (neg : Bool) (t : TypeId) (x y : Opd) : Option COp := match P.underlying t with
  | some (.int _) | some .string => some (.p (.bin (if neg then .neq else .eql) x y))
  | _ => (eqK P t).map fun k => .p (.eqv neg k x y)
def callable (f : FuncId) : Bool := match P.funcs[f]? with | some fn => fn.body.isSome && fn.name != "runtime.NumGoroutine" | none => false
def compParts (pl : Nat → Option (Nat × Nat)) : List (Nat × Operand) → Option (List (Nat × Nat × Opd))
  | [] => some []
  | (i, x) :: l => (pl i).bind fun (o, s) => (compOpd x).bind fun x => (compParts pl l).map fun r => (o, s, x) :: r
def placeField (fs : Array Field) (i : Nat) : Option (Nat × Nat) := (fs[i]?).bind fun f => (sizeT P f.type).map fun s => (f.offset, s)
def compBuiltin (b : Builtin) (ts : Array TypeId) (args : List Opd) : Option COp :=
  match b, args with
  | .len, [x] => (ts[0]?).bind fun t => match P.underlying t with
    | some .string => some (.p (.lenT x))
    | some (.slice _) => some (.p (.len x))
    | some (.array n _) => some (.p (.lenC n))
    | some (.pointer a) => match P.underlying a with | some (.array n _) => some (.p (.lenC n)) | _ => none
    | some (.map ..) => some (.r (.lenM x))
    | _ => none
  | .cap, [x] => (ts[0]?).bind fun t => match P.underlying t with
    | some (.slice _) => some (.p (.cap x))
    | _ => none
  | .max, l => some (.p (.max l))
  | .min, l => some (.p (.min l))
  | .append, [x, y] => (ts[0]?).bind fun t => (ts[1]?).bind fun u => match P.underlying t, P.underlying u with
    | some (.slice e), some (.slice _) => (sizeT P e).bind fun s => (bytesT P e).bind fun n => (zeroC P e).bind fun z => if z.length = s then some (.x (.append e s n x y)) else none
    | some (.slice e), some .string => (sizeT P e).bind fun s => (bytesT P e).bind fun n => (zeroC P e).bind fun z => if z.length = s ∧ s = 1 then some (.x (.append e s n x y)) else none
    | _, _ => none
  | .copy, [x, y] => (ts[0]?).bind fun t => (ts[1]?).bind fun u => match P.underlying t, P.underlying u with
    | some (.slice e), some (.slice _) => (sizeT P e).bind fun s => some (.x (.copy s x y))
    | some (.slice e), some .string => (sizeT P e).bind fun s => if s = 1 then some (.x (.copy s x y)) else none
    | _, _ => none
  | .delete, [x, i] => (ts[0]?).bind fun t => match P.underlying t with
    | some (.map k _) => (ctOf P k).map fun k => .x (.mapDel k x i)
    | _ => none
  | .clear, [x] => (ts[0]?).bind fun t => match P.underlying t with
    | some (.slice e) => (zeroC P e).map fun z => .x (.clearS z x)
    | _ => none
  | _, _ => none
/-- All fields of a struct have sizes. -/
def sized (t : TypeId) : Bool := match P.underlying t with | some (.struct fs) => fs.toList.all fun f => (sizeT P f.type).isSome | _ => true
def compOp (o : Op) : Option COp :=
  match o with
  | .move x | .assign x => (compOpd x).map fun x => .p (.val x)
  | .pick c a b => (compOpd c).bind fun c => (compOpd a).bind fun a => (compOpd b).map fun b => .p (.pick c a b)
  | .alloc t => (zeroC P t).map fun z => .a (.alloc t z)
  | .box t x => (sizeT P t).bind fun s => (compOpd x).map fun x => .a (.box t s x)
  | .build t ps => match P.underlying t with
    | some (.struct fs) => if sized P t = true then (zeroC P t).bind fun z => (compParts (placeField P fs) ps.toList).map fun l => .p (.build z l) else none
    | some (.array _ e) => (zeroC P t).bind fun z => (sizeT P e).bind fun s => (compParts (fun i => some (i * s, s)) ps.toList).map fun l => .p (.build z l)
    | _ => none
  | .buildSlice t n ps => match P.underlying t with
    | some (.slice e) => (zeroC P e).bind fun z => (sizeT P e).bind fun s => if z.length = s ∧ 0 < s ∧ n * s ≤ 2 ^ 24 then (compParts (fun i => some (i * s, s)) ps.toList).map fun l => .a (.buildSlice e s (repeatA n z) n l) else none
    | _ => none
  | .insert t m k v | .mapUpdate t m k v => match P.underlying t with
    | some (.map kt _) => (ctOf P kt).bind fun kt => (compOpd m).bind fun m => (compOpd k).bind fun k => (compOpd v).map fun v => .x (.mapSet kt m k v)
    | _ => none
  | .load t a => (compOpd a).bind fun a => if aggT P t then (sizeT P t).map fun s => .r (.load true s a) else if (P.underlying t).isSome then some (.r (.load false 1 a)) else none
  | .store t a v => (compOpd a).bind fun a => (compOpd v).bind fun v => (sizeT P t).map fun s => .x (.store s a v)
  | .nilCheck x => (compOpd x).map fun x => .p (.nilCheck x)
  | .binOp op t x y _ => (compOpd x).bind fun x => (compOpd y).bind fun y => match op with
    | .eql => compEq P false t x y
    | .neq => compEq P true t x y
    | op => some (.p (.bin op x y))
  | .unOp op _ x => (compOpd x).map fun x => .p (.un op x)
  | .convert s d x => (compOpd x).bind fun x => match P.underlying s, P.underlying d with
    | some (.int _), some (.int k) => some (.p (.conv k x))
    | some .string, some .string => some (.p (.convS x))
    | some (.slice e), some .string => match P.underlying e with | some (.int .u8) => some (.r (.strOf x)) | _ => none
    | some .string, some (.slice e) => match P.underlying e with | some (.int .u8) => some (.a (.bytes e x)) | _ => none
    | _, _ => none
  | .makeFunc f a c => (compOpds a.toList).bind fun a => (compOpds c.toList).map fun c => .p (.mkFn f a c)
  | .makeInterface t x => match P.underlying t with
    | some (.interface _) | none => none
    | _ => (compOpd x).map fun x => .p (.mkIface t x)
  | .makeMap t r => match P.underlying t with | some (.map ..) => (compOpt r).map fun r => .a (.makeMap r) | _ => none
  | .makeSlice t l c => match P.underlying t with
    | some (.slice e) => (zeroC P e).bind fun z => (sizeT P e).bind fun s => (bytesT P e).bind fun n => (compOpd l).bind fun l => (compOpd c).map fun c => .a (.makeSlice e s n z l c)
    | _ => none
  | .slice t x lo (some hi) (some mx) => (compOpd x).bind fun x => (compOpt lo).bind fun lo => (compOpd hi).bind fun hi => (compOpd mx).bind fun mx => match P.underlying t with
    | some (.slice e) => (sizeT P e).map fun s => .r (.slice3 s x lo hi mx)
    | _ => none
  | .slice t x lo hi none => (compOpd x).bind fun x => (compOpt lo).bind fun lo => (compOpt hi).bind fun hi => match P.underlying t with
    | some .string => some (.p (.sliceT x lo hi))
    | some (.slice e) => (sizeT P e).map fun s => .r (.slice s x lo hi)
    | some (.array n e) => (sizeT P e).map fun s => .p (.sliceA n s x lo hi)
    | _ => none
  | .fieldAddr t x f => match P.underlying t with
    | some (.struct fs) => (fs[f]?).bind fun f => (sizeT P f.type).bind fun s => if s = 0 then none else (compOpd x).map fun x => .p (.fieldA f.offset x)
    | _ => none
  | .field t x f => match P.underlying t with
    | some (.struct fs) => (fs[f]?).bind fun f => (sizeT P f.type).bind fun s => (P.underlying f.type).bind fun _ => (compOpd x).map fun x => .p (.field (aggT P f.type) f.offset s x)
    | _ => none
  | .indexAddr t x i => (compOpd x).bind fun x => (compOpd i).bind fun i => match P.underlying t with
    | some (.slice e) => (sizeT P e).map fun s => .p (.indexS s x i)
    | some (.array n e) => (sizeT P e).map fun s => .p (.indexA n s x i)
    | _ => none
  | .index t x i => (compOpd x).bind fun x => (compOpd i).bind fun i => match P.underlying t with
    | some (.array n e) => (sizeT P e).bind fun s => (P.underlying e).bind fun _ => some (.p (.indexG n s (aggT P e) x i))
    | some .string => some (.p (.indexT x i))
    | _ => none
  | .lookup t x i ok => match P.underlying t with
    | some (.map k e) => (ctOf P k).bind fun k => (zeroV P e).bind fun z => (compOpd x).bind fun x => (compOpd i).map fun i => .r (.lookup k z ok x i)
    | _ => none
  | .extract x i => (compOpd x).map fun x => .p (.extract x i)
  | .call c => (compOpds c.args.toList).bind fun l => match c.callee with
    | .value (.func f) => if callable P f then some (.x (.callF f l)) else none
    | .value x => (compOpd x).map fun x => .x (.callV x l)
    | .builtin b => compBuiltin P b c.argTypes l
    | .invoke x name => (compOpd x).map fun x => .x (.callM x name l)
  | .defer c => (compOpds c.args.toList).bind fun l => match c.callee with
    | .value x => (compOpd x).map fun x => .x (.deferV x l)
    | _ => none
  | _ => none
def dstOk (nt : Nat) : Option Nat → Bool
  | some d => decide (d < nt)
  | none => true
/-- What never yields anything: an operation that the engine does not know. -/
def stuckOp : COp := .p (.extract (.c (.int .i64 0)) 0)
def compOpS (o : Op) : Option COp := match compOp P o with
  | some c => some c
  | none => some stuckOp
def compOper (nt : Nat) (ops : Array Oper) (o : Oper) : Option COper :=
  if dstOk nt o.dst = false then none else
  (compOpS P o.op).bind fun c => match o.guard with
    | none => some ⟨o.dst, c, none⟩
    | some (j, b) => ((ops[j]?).bind (·.dst)).map fun s => ⟨o.dst, c, some (s, b)⟩
def COp.isX : COp → Bool | .x _ => true | _ => false
def COp.isR : COp → Bool | .r _ => true | _ => false
def COp.isA : COp → Bool | .a _ => true | _ => false
/-- The variables that an operation looks at. -/
def opUses (ops : Array Oper) (o : Oper) : List Nat :=
  (o.op.operands.toList.filterMap fun | .tmp t => some t | _ => none) ++ (match o.guard with | some (j, _) => ((ops[j]?).bind (·.dst)).toList | none => [])
def opTmps (ops : Array Oper) (o : Oper) : List Nat := o.dst.toList ++ opUses ops o
/-- Of each operation those that stand ahead of it in every order. -/
def mask (acc : List Nat) (o : Oper) : Nat := o.after.toList.foldl (fun s e => if Region.binds .any e then s ||| 2 ^ e.on ||| acc.getD e.on 0 else s) 0
def preOf : List Oper → List Nat → List Nat
  | [], acc => acc
  | o :: l, acc => preOf l (acc ++ [mask acc o])
def ahead (pre : List Nat) (i j : Nat) : Bool := (pre.getD j 0).testBit i
def ordered (pre : List Nat) (i j : Nat) : Bool := ahead pre i j || ahead pre j i
/-- In every order of a region: what is written is written in order, and what acts acts in order. -/
def drawOk (ops : Array Oper) (cs : List COper) (pre : List Nat) : Bool :=
  let l := ops.toList.zipIdx
  (l.all fun (o, i) => l.all fun (q, j) => i == j || (match q.dst with | some d => !(opTmps ops o).contains d || ordered pre i j | none => true)) &&
  (let k := cs.zipIdx; k.all fun (c, i) => !c.op.isX || k.all fun (d, j) => i == j || !d.op.isX || ordered pre i j) &&
  (l.all fun (o, i) => o.after.toList.all fun e => !Region.binds .any e || decide (e.on < i))
def drawPairs (cs : List COper) (pre : List Nat) : List (Nat × Nat) :=
  cs.zipIdx.flatMap fun (c, i) => if c.op.isR || c.op.isA then cs.zipIdx.filterMap fun (d, j) => if d.op.isX && !ordered pre i j then some (i, j) else none else []
def compCode (nt : Nat) : Code → List (List Nat) → Option (CCode × List (List Nat))
  | .skip, ks => some (.skip, ks)
  | .region _ ops d, ks => match ks with
    | [] => none
    | k :: ks => (ops.toList.mapM (compOper P nt ops)).bind fun cs =>
      if d then if drawOk ops cs (preOf ops.toList []) then some (.dregion k (cs.zip (ops.toList.map (opUses ops))) (drawPairs cs (preOf ops.toList [])), ks) else none
      else some (.region k cs, ks)
  | .seq a b, ks => (compCode nt a ks).bind fun (a, ks) => (compCode nt b ks).map fun (b, ks) => (.seq a b, ks)
  | .cond c a b, ks => (compOpd c).bind fun c => (compCode nt a ks).bind fun (a, ks) => (compCode nt b ks).map fun (b, ks) => (.cond c a b, ks)
  | .block id b, ks => (compCode nt b ks).map fun (b, ks) => (.block id b, ks)
  | .loop b, ks => (compCode nt b ks).map fun (b, ks) => (.loop b, ks)
  | .exit id, ks => some (.exit id, ks)
  | .ret, ks => some (.ret, ks)
  | _, _ => none
def compRes : ResultVar → Option CRes
  | .tmp t => some (.t t)
  | .cell i t => if aggT P t then (sizeT P t).map fun s => .cell i true s else if (P.underlying t).isSome then some (.cell i false 1) else none
def compFunc (f : Func) (ks : List (List Nat)) : Option CFunc :=
  f.body.bind fun c => (compCode P f.ntmps c ks).bind fun (c, r) => (f.results.toList.mapM (compRes P)).bind fun res =>
    if r.isEmpty && decide (f.params.size + f.nfree ≤ f.ntmps) then some ⟨f.params.size + f.nfree, c, res⟩ else none
end Go.Eng
