/- The engine, second part: operations, code, and how they run on abstract values. -/
import Derived.Test.YtgmaknppneonfaaEngA
namespace Go.Eng

inductive Opd where
  | t (i : Nat)
  | c (v : AVal)
abbrev Tm := List (Nat × AVal)
def lk : Tm → Nat → Option AVal
  | [], _ => none
  | (j, v) :: r, i => if Nat.beq i j then some v else lk r i
def restrict (keep : List Nat) (τ : Tm) : Tm := keep.filterMap fun i => (lk τ i).map fun v => (i, v)
def ev (τ : Tm) : Opd → Option AVal
  | .t i => lk τ i
  | .c v => some v
def evs (τ : Tm) : List Opd → Option (List AVal)
  | [] => some []
  | x :: l => (ev τ x).bind fun v => (evs τ l).map fun vs => v :: vs
def evo (τ : Tm) : Option Opd → Option (Option AVal)
  | none => some none
  | some x => (ev τ x).map some

def AVal.cells : AVal → List AVal
  | .agg l => l
  | .raw v => v.cells.toList.map .raw
  | v => [v]
def rawCell : Value → Bool
  | .slice _ _ _ => true
  | .pointer _ => true
  | _ => false
def AVal.isCell : AVal → Bool
  | .agg _ | .tup _ => false
  | .raw v => rawCell v
  | _ => true

/-- What kind of cell is compared. -/
inductive CT where
  | bool | int (k : IntKind) | str
def cellEq : CT → AVal → AVal → Option Bool
  | .bool, .bool a, .bool b => some (a == b)
  | .int k, .int i a, .int j b => if i = k then if j = k then some (a == b) else none else none
  | .str, .str a, .str b => some (a == b)
  | _, _, _ => none
def cellsEq : List CT → List AVal → List AVal → Option Bool
  | [], [], [] => some true
  | c :: cs, a :: l, b :: m => (cellEq c a b).bind fun r => (cellsEq cs l m).map fun q => r && q
  | _, _, _ => none
/-- How two values are compared. -/
inductive EqK where
  | cell (c : CT)
  | agg (cs : List CT)
  | ptr | slice | map | func | iface
def aeq : EqK → AVal → AVal → Option Bool
  | .cell c, a, b => cellEq c a b
  | .agg cs, .agg l, .agg m => cellsEq cs l m
  | .ptr, .nilp, .nilp => some true
  | .ptr, .nilp, .ptr _ _ => some false
  | .ptr, .ptr _ _, .nilp => some false
  | .slice, .nils, .nils => some true
  | .slice, .nils, .sl .. => some false
  | .slice, .nils, .etail .. => some false
  | .slice, .sl .., .nils => some false
  | .slice, .etail .., .nils => some false
  | .map, .nilm, .nilm => some true
  | .map, .nilm, .mp _ => some false
  | .map, .mp _, .nilm => some false
  | .func, .nilfn, .nilfn => some true
  | .func, .nilfn, .fn .. => some false
  | .func, .fn .., .nilfn => some false
  | .iface, .nili, .iface .. => some false
  | .iface, .iface .., .nili => some false
  | _, _, _ => none

def abits (k : IntKind) (f : BitVec k.bits → BitVec k.bits → BitVec k.bits) (x y : Int) : AVal := .int k (k.wrap (f (BitVec.ofInt k.bits x) (BitVec.ofInt k.bits y)).toNat)
def aint (op : BinOp) (k : IntKind) (a b : Int) : Option AVal :=
  match op with
  | .add => some (.int k (k.wrap (a + b)))
  | .sub => some (.int k (k.wrap (a - b)))
  | .mul => some (.int k (k.wrap (a * b)))
  | .quo => if b = 0 then none else some (.int k (k.wrap (a.tdiv b)))
  | .rem => if b = 0 then none else some (.int k (a.tmod b))
  | .and => some (abits k (· &&& ·) a b)
  | .or => some (abits k (· ||| ·) a b)
  | .xor => some (abits k (· ^^^ ·) a b)
  | .andNot => some (abits k (fun x y => x &&& ~~~y) a b)
  | .eql => some (.bool (a == b))
  | .neq => some (.bool (a != b))
  | .lss => some (.bool (decide (a < b)))
  | .leq => some (.bool (decide (a ≤ b)))
  | .gtr => some (.bool (decide (a > b)))
  | .geq => some (.bool (decide (a ≥ b)))
  | _ => none
def maxStr : Nat := 2 ^ 60
def astr (op : BinOp) (a b : List UInt8) : Option AVal :=
  match op with
  | .add => if a.length + b.length ≤ maxStr then some (.str (a ++ b)) else none
  | .eql => some (.bool (a == b))
  | .neq => some (.bool (!(a == b)))
  | .lss => some (.bool (Op.bytesLess a b))
  | .leq => some (.bool (Op.bytesLess a b || a == b))
  | .gtr => some (.bool (!(Op.bytesLess a b || a == b)))
  | .geq => some (.bool (!Op.bytesLess a b))
  | _ => none
def abin (op : BinOp) (x y : AVal) : Option AVal :=
  match x, y with
  | .int k a, .int j b =>
    match op with
    | .shl => if b < 0 then none else some (.int k (k.wrap (a * 2 ^ (min b.toNat k.bits))))
    | .shr => if b < 0 then none else some (.int k (a.fdiv (2 ^ (min b.toNat k.bits))))
    | _ => if k = j then aint op k a b else none
  | .str a, .str b => astr op a b
  | _, _ => none
def aun (op : UnOp) (x : AVal) : Option AVal :=
  match op, x with
  | .neg, .int k n => some (.int k (k.wrap (0 - n)))
  | .xor, .int k n => some (abits k (· ^^^ ·) (if k.signed then -1 else k.max) n)
  | .not, .bool b => some (.bool !b)
  | _, _ => none

def placeA (cs : List AVal) (off : Nat) (vs : List AVal) : List AVal := cs.take off ++ vs ++ cs.drop (off + vs.length)
/-- Parts of an aggregate: where, how many cells, what. -/
def fillA (τ : Tm) : List (Nat × Nat × Opd) → List AVal → Option (List AVal)
  | [], cs => some cs
  | (off, sz, x) :: r, cs => (ev τ x).bind fun v => if v.cells.length = sz ∧ off + sz ≤ cs.length then fillA τ r (placeA cs off v.cells) else none

inductive POp where
  | val (x : Opd)
  | pick (c a b : Opd)
  | build (zero : List AVal) (parts : List (Nat × Nat × Opd))
  | nilCheck (x : Opd)
  | bin (op : BinOp) (x y : Opd)
  | eqv (neg : Bool) (k : EqK) (x y : Opd)
  | un (op : UnOp) (x : Opd)
  | conv (k : IntKind) (x : Opd)
  | convS (x : Opd)
  | mkFn (f : Fn) (first captured : List Opd)
  | mkIface (t : TypeId) (x : Opd)
  | fieldA (off : Nat) (x : Opd)
  | field (agg : Bool) (off n : Nat) (x : Opd)
  | indexS (es : Nat) (x i : Opd)
  | indexA (len es : Nat) (x i : Opd)
  | indexG (len es : Nat) (agg : Bool) (x i : Opd)
  | indexT (x i : Opd)
  | sliceT (x : Opd) (lo hi : Option Opd)
  | sliceA (n es : Nat) (x : Opd) (lo hi : Option Opd)
  | extract (x : Opd) (i : Nat)
  | len (x : Opd)
  | lenT (x : Opd)
  | lenC (n : Nat)
  | cap (x : Opd)
  | max (l : List Opd)
  | min (l : List Opd)

def partA (agg : Bool) (cs : List AVal) (off n : Nat) : Option AVal :=
  if agg then if off + n ≤ cs.length then some (.agg ((cs.drop off).take n)) else none else cs[off]?
/-- The bounds of a slice expression: low, high, of what may be cut. -/
def abounds (len cap : Nat) (lo hi : Option AVal) : Option (Nat × Nat) :=
  let h : Option Nat := match hi with
    | none => some len
    | some (.int _ i) => if 0 ≤ i ∧ i ≤ cap then some i.toNat else none
    | _ => none
  h.bind fun h => match lo with
    | none => some (0, h)
    | some (.int _ i) => if 0 ≤ i ∧ i ≤ h then some (i.toNat, h) else none
    | _ => none
def amaxStep (gt : Bool) (r : Option AVal) (v : AVal) : Option AVal := match r, v with
  | some (.int k x), .int _ y => some (.int k (if gt then (if x < y then y else x) else (if y < x then y else x)))
  | _, _ => none
def amax (gt : Bool) : List AVal → Option AVal
  | .int k x :: l => l.foldl (amaxStep gt) (some (.int k x))
  | _ => none
def apu (τ : Tm) : POp → Option AVal
  | .val x => ev τ x
  | .pick c a b => match ev τ c with
    | some (.bool true) => ev τ a
    | some (.bool false) => ev τ b
    | _ => none
  | .build zero parts => (fillA τ parts zero).map .agg
  | .nilCheck x => (ev τ x).bind fun v => match v with | .ptr .. | .iface .. => some v | .fn (.func f) a c => some (.fn (.func f) a c) | _ => none
  | .bin op x y => (ev τ x).bind fun a => (ev τ y).bind fun b => abin op a b
  | .eqv neg k x y => (ev τ x).bind fun a => (ev τ y).bind fun b => (aeq k a b).map fun r => .bool (if neg then !r else r)
  | .un op x => (ev τ x).bind fun a => aun op a
  | .conv k x => match ev τ x with | some (.int _ n) => some (.int k (k.wrap n)) | _ => none
  | .convS x => match ev τ x with | some (.str s) => some (.str s) | _ => none
  | .mkFn f a c => (evs τ a).bind fun a => (evs τ c).map fun c => .fn f a c
  | .mkIface t x => (ev τ x).map fun v => .iface t v
  | .fieldA off x => match ev τ x with | some (.ptr b o) => some (.ptr b (o + off)) | _ => none
  | .field agg off n x => match ev τ x with | some (.agg cs) => partA agg cs off n | _ => none
  | .indexS es x i => match ev τ x, ev τ i with
    | some (.sl b o n _), some (.int _ i) => if 0 ≤ i ∧ i < (n : Int) then some (.ptr b (o + i.toNat * es)) else none
    | _, _ => none
  | .indexA len es x i => match ev τ x, ev τ i with
    | some (.ptr b o), some (.int _ i) => if 0 ≤ i ∧ i < (len : Int) then some (.ptr b (o + i.toNat * es)) else none
    | _, _ => none
  | .indexG len es agg x i => match ev τ x, ev τ i with
    | some (.agg cs), some (.int _ i) => if 0 ≤ i ∧ i < (len : Int) then partA agg cs (i.toNat * es) es else none
    | _, _ => none
  | .indexT x i => match ev τ x, ev τ i with
    | some (.str s), some (.int _ i) => if 0 ≤ i then (s[i.toNat]?).map fun c => .int .u8 c.toNat else none
    | _, _ => none
  | .sliceT x lo hi => match ev τ x with
    | some (.str s) => (evo τ lo).bind fun lo => (evo τ hi).bind fun hi => (abounds s.length s.length lo hi).map fun (l, h) => .str ((s.drop l).take (h - l))
    | _ => none
  | .sliceA n es x lo hi => match ev τ x with
    | some (.ptr b o) => (evo τ lo).bind fun lo => (evo τ hi).bind fun hi => (abounds n n lo hi).map fun (l, h) => .sl b (if n = l then o else o + l * es) (h - l) (some (n - l))
    | _ => none
  | .extract x i => match ev τ x with | some (.tup vs) => vs[i]? | _ => none
  | .len x => match ev τ x with
    | some (.sl _ _ n _) => some (.int .i64 n)
    | some (.etail ..) => some (.int .i64 0)
    | some .nils => some (.int .i64 0)
    | some (.raw (.slice _ n _)) => some (.int .i64 n)
    | _ => none
  | .lenT x => match ev τ x with
    | some (.str s) => some (.int .i64 s.length)
    | _ => none
  | .lenC n => some (.int .i64 n)
  | .cap x => match ev τ x with
    | some (.sl _ _ _ (some c)) => some (.int .i64 c)
    | some .nils => some (.int .i64 0)
    | _ => none
  | .max l => (evs τ l).bind (amax true)
  | .min l => (evs τ l).bind (amax false)

inductive ROp where
  | load (agg : Bool) (n : Nat) (x : Opd)
  | lookup (k : CT) (zero : AVal) (ok : Bool) (x i : Opd)
  | lenM (x : Opd)
  | slice (es : Nat) (x : Opd) (lo hi : Option Opd)
  | slice3 (es : Nat) (x : Opd) (lo : Option Opd) (hi mx : Opd)
  | strOf (x : Opd)

def ABlk.read (agg : Bool) (off n : Nat) : ABlk → Option AVal
  | .cells l _ _ _ => partA agg l off n
  | _ => none
def findK (k : CT) (i : AVal) : List (AVal × AVal) → Option (Option AVal)
  | [] => some none
  | (a, v) :: r => (cellEq k i a).bind fun q => if q then some (some v) else findK k i r
def lookA (zero : AVal) (ok : Bool) : Option AVal → AVal
  | some v => if ok then .tup [v, .bool true] else v
  | none => if ok then .tup [zero, .bool false] else zero
def isByte : AVal → Option UInt8
  | .int .u8 n => some (UInt8.ofNat n.toNat)
  | _ => none
def bytesOf : List AVal → Option (List UInt8)
  | [] => some []
  | v :: l => (isByte v).bind fun c => (bytesOf l).map fun r => c :: r
/-- What is read: nothing of the heap, or of a block. -/
inductive Rd where
  | v (x : Option AVal)
  | b (n : Nat) (g : ABlk → Option AVal)
def Rd.get (H : AHeap) : Rd → Option AVal
  | .v x => x
  | .b n g => g (H.get n)
def lookBlk (k : CT) (i zero : AVal) (ok : Bool) : ABlk → Option AVal
  | .map es => (findK k i es).map (lookA zero ok)
  | _ => none
def lenBlk : ABlk → Option AVal
  | .map es => some (.int .i64 es.length)
  | _ => none
def sliceBlk (b o n es : Nat) (lo hi : Option AVal) : ABlk → Option AVal
  | .cells cs _ s .elastic => if s = es then (abounds n ((cs.length - o) / es) lo hi).bind fun (l, h) => if l = 0 then some (.sl b o h none) else if l < (cs.length - o) / es then some (.sl b (o + l * es) (h - l) none) else if h = l then some (.etail b o l es) else none else none
  | _ => none
def mx3 (cap : Nat) : AVal → Option Nat
  | .int _ j => if 0 ≤ j ∧ j ≤ cap then some j.toNat else none
  | _ => none
def slice3A (b o n es cap : Nat) (lo : Option AVal) (hi mx : AVal) : Option AVal := (mx3 cap mx).bind fun m => (abounds n m lo (some hi)).map fun (l, h) => .sl b (if m = l then o else o + l * es) (h - l) (some (m - l))
def slice3Blk (b o n es : Nat) (lo : Option AVal) (hi mx : AVal) : ABlk → Option AVal
  | .cells cs _ s .elastic => if s = es then slice3A b o n es ((cs.length - o) / es) lo hi mx else none
  | _ => none
def strBlk (o n : Nat) : ABlk → Option AVal
  | .cells cs _ _ _ => if o + n ≤ cs.length then (bytesOf ((cs.drop o).take n)).map .str else none
  | _ => none
/-- What an operation that reads asks of which block. -/
def ard (τ : Tm) : ROp → Option Rd
  | .load agg n x => match ev τ x with
    | some (.ptr b o) => some (.b b (ABlk.read agg o n))
    | _ => none
  | .lookup k zero ok x i => (ev τ i).bind fun i => if i.isCell then match ev τ x with
      | some .nilm => some (.v (some (lookA zero ok none)))
      | some (.mp b) => some (.b b (lookBlk k i zero ok))
      | _ => none
    else none
  | .lenM x => match ev τ x with
    | some .nilm => some (.v (some (.int .i64 0)))
    | some (.mp b) => some (.b b lenBlk)
    | _ => none
  | .slice es x lo hi => (evo τ lo).bind fun lo => (evo τ hi).bind fun hi => match ev τ x with
    | some .nils => some (.v ((abounds 0 0 lo hi).map fun _ => .nils))
    | some (.sl b o n (some c)) => some (.v ((abounds n c lo hi).map fun (l, h) => .sl b (if c = l then o else o + l * es) (h - l) (some (c - l))))
    | some (.sl b o n none) => some (.b b (sliceBlk b o n es lo hi))
    | _ => none
  | .slice3 es x lo hi mx => (evo τ lo).bind fun lo => (ev τ hi).bind fun hi => (ev τ mx).bind fun mx => match ev τ x with
    | some (.sl b o n (some c)) => some (.v (slice3A b o n es c lo hi mx))
    | some (.sl b o n none) => some (.b b (slice3Blk b o n es lo hi mx))
    | _ => none
  | .strOf x => match ev τ x with
    | some .nils => some (.v (some (.str [])))
    | some (.etail _ _ _ _) => some (.v (some (.str [])))
    | some (.sl b o n _) => some (.b b (strBlk o n))
    | _ => none

inductive AOp where
  | box (elem : TypeId) (es : Nat) (x : Opd)
  | alloc (elem : TypeId) (zero : List AVal)
  | buildSlice (elem : TypeId) (es : Nat) (init : List AVal) (len : Nat) (parts : List (Nat × Nat × Opd))
  | makeSlice (elem : TypeId) (es bytes : Nat) (zero : List AVal) (len cap : Opd)
  | makeMap (r : Option Opd)
  | bytes (elem : TypeId) (x : Opd)
def repeatA (n : Nat) (zero : List AVal) : List AVal := (List.replicate n zero).flatten
/-- What block an operation makes, and what it answers, by the block's number. -/
def aal (τ : Tm) : AOp → Option (ABlk × (Nat → AVal))
  | .box elem es x => (ev τ x).bind fun v => if v.cells.all AVal.isCell then some (.cells v.cells elem es .fixed, fun b => .ptr b 0) else none
  | .alloc elem zero => if zero.all AVal.isCell then some (.cells zero elem zero.length .fixed, fun b => .ptr b 0) else none
  | .buildSlice elem es init len parts => (fillA τ parts init).bind fun cs => if cs.all AVal.isCell then some (.cells cs elem es .fixed, fun b => .sl b 0 len (some len)) else none
  | .makeSlice elem es bytes zero len cap => match ev τ len, ev τ cap with
    | some (.int .i64 l), some (.int .i64 c) => if 0 ≤ l ∧ l ≤ c ∧ bytes * c.toNat ≤ 2 ^ 46 ∧ c < 2 ^ 46 ∧ zero.length = es ∧ zero.all AVal.isCell then some (.cells (repeatA c.toNat zero) elem es .fixed, fun b => .sl b 0 l.toNat (some c.toNat)) else none
    | _, _ => none
  | .makeMap r => match evo τ r with
    | some none => some (.map [], .mp)
    | some (some (.int _ _)) => some (.map [], .mp)
    | _ => none
  | .bytes elem x => match ev τ x with
    | some (.str s) => some (.cells (s.map fun c => .int .u8 c.toNat) elem 1 .elastic, fun b => .sl b 0 s.length none)
    | _ => none

inductive XOp where
  | store (n : Nat) (x v : Opd)
  | mapSet (k : CT) (x i v : Opd)
  | mapDel (k : CT) (x i : Opd)
  | append (elem : TypeId) (es bytes : Nat) (x y : Opd)
  | copy (es : Nat) (x y : Opd)
  | clearS (zero : List AVal) (x : Opd)
  | callF (f : FuncId) (l : List Opd)
  | callV (x : Opd) (l : List Opd)
  | deferV (x : Opd) (l : List Opd)
  | callM (x : Opd) (name : String) (l : List Opd)

def AHeap.store (H : AHeap) (b off : Nat) (vs : List AVal) : Option AHeap :=
  match H.get b with
  | .cells l e s m => if m ≠ .ro ∧ off + vs.length ≤ l.length ∧ vs.all AVal.isCell = true then some (H.set b (.cells (placeA l off vs) e s m)) else none
  | _ => none
def setK (k : CT) (i v : AVal) : List (AVal × AVal) → Option (List (AVal × AVal))
  | [] => some [(i, v)]
  | (a, w) :: r => (cellEq k i a).bind fun q => if q then some ((i, v) :: r) else (setK k i v r).map fun r => (a, w) :: r
def delK (k : CT) (i : AVal) : List (AVal × AVal) → Option (List (AVal × AVal))
  | [] => some []
  | (a, w) :: r => (cellEq k i a).bind fun q => if q then some r else (delK k i r).map fun r => (a, w) :: r
/-- The cells that a slice or a string brings to an append or a copy, of its first n elements. -/
def srcCells (H : AHeap) (es : Nat) : AVal → Nat → Option (List AVal)
  | .nils, _ => some []
  | .etail .., _ => some []
  | .str s, n => some ((s.take n).map fun c => .int .u8 c.toNat)
  | .sl b o _ _, n => match H.get b with
    | .cells l _ _ _ => if o + n * es ≤ l.length then some ((l.drop o).take (n * es)) else none
    | _ => none
  | _, _ => none
def lenA : AVal → Option Nat
  | .nils => some 0
  | .etail .. => some 0
  | .str s => some s.length
  | .sl _ _ n _ => some n
  | _ => none
def roomA (cap : Option Nat) (m : Mode) (s es o need L : Nat) : Bool := match cap with | some c => decide (need ≤ c) | none => decide (m = Mode.elastic ∧ s = es ∧ o + need * es ≤ L)
/-- append: in place where it is sure that there is room, else into a new block, the elder one being dead from then on if it could be written over. -/
def appendA (H : AHeap) (elem : TypeId) (es bytes : Nat) (x y : AVal) : Option (AVal × AHeap) :=
  (lenA y).bind fun n => (srcCells H es y n).bind fun new =>
    if new.all AVal.isCell = true ∧ new.length = n * es ∧ 0 < es then
      match x with
      | .nils => if n = 0 then some (.nils, H) else
          if n * bytes ≤ 2 ^ 44 ∧ n ≤ 2 ^ 44 then some (.sl H.n 0 n none, H.push (.cells new elem es .elastic)) else none
      | .sl b o len cap =>
        match H.get b with
        | .cells l e s m =>
          let need := len + n
          if roomA cap m s es o need l.length = true then
            if n = 0 then some (.sl b o len cap, H) else
            (H.store b (o + len * es) new).map fun H' => (.sl b o need cap, H')
          else if e = elem ∧ s = es ∧ o + len * es ≤ l.length ∧ need * bytes ≤ 2 ^ 44 ∧ need ≤ 2 ^ 44 ∧ m ≠ Mode.ro then
            match cap, m with
            | some _, .fixed => some (.sl H.n 0 need none, H.push (.cells ((l.drop o).take (len * es) ++ new) elem es .elastic))
            | none, .elastic => if o = 0 then some (.sl H.n 0 need none, (H.set b .dead).push (.cells (l.take (len * es) ++ new) elem es .elastic)) else none
            | _, _ => none
          else none
        | _ => none
      | _ => none
    else none
def copyA (H : AHeap) (es : Nat) (x y : AVal) : Option (AVal × AHeap) :=
  (lenA x).bind fun d => (lenA y).bind fun n => (srcCells H es y (Nat.min n d)).bind fun new =>
    if new.length = Nat.min n d * es then
      match x with
      | .sl b o _ _ => (H.store b o new).map fun H' => (.int .i64 (Nat.min n d), H')
      | .nils => some (.int .i64 0, H)
      | _ => none
    else none

/-- What functions do: arguments, heap; answer, heap. -/
abbrev Phi := FuncId → List AVal → AHeap → Option (AVal × AHeap)
abbrev Dfs := List (AVal × List AVal)
def callVal (Φ : Phi) (f : AVal) (args : List AVal) (H : AHeap) : Option (AVal × AHeap) :=
  match f with
  | .fn (.func g) first cap => Φ g (first ++ args ++ cap) H
  | _ => none
def axo (Φ : Phi) (τ : Tm) (H : AHeap) (ds : Dfs) : XOp → Option (AVal × AHeap × Dfs)
  | .store n x v => match ev τ x with
    | some (.ptr b o) => (ev τ v).bind fun v => if v.cells.length = n then (H.store b o v.cells).map fun H' => (undefA, H', ds) else none
    | _ => none
  | .mapSet k x i v => (ev τ i).bind fun i => (ev τ v).bind fun v => match ev τ x with
    | some (.mp b) => match H.get b with
      | .map es => (setK k i v es).map fun es' => (undefA, H.set b (.map es'), ds)
      | _ => none
    | _ => none
  | .mapDel k x i => (ev τ i).bind fun i => match ev τ x with
    | some (.mp b) => match H.get b with
      | .map es => (delK k i es).map fun es' => (.tup [], H.set b (.map es'), ds)
      | _ => none
    | _ => none
  | .append elem es bytes x y => (ev τ x).bind fun x => (ev τ y).bind fun y => (appendA H elem es bytes x y).map fun (v, H') => (v, H', ds)
  | .copy es x y => (ev τ x).bind fun x => (ev τ y).bind fun y => (copyA H es x y).map fun (v, H') => (v, H', ds)
  | .clearS zero x => match ev τ x with
    | some .nils => some (.tup [], H, ds)
    | some (.etail ..) => some (.tup [], H, ds)
    | some (.sl b o n _) => (H.store b o (repeatA n zero)).map fun H' => (.tup [], H', ds)
    | _ => none
  | .callF f l => (evs τ l).bind fun l => (Φ f l H).map fun (v, H') => (v, H', ds)
  | .callV x l => (ev τ x).bind fun x => (evs τ l).bind fun l => (callVal Φ x l H).map fun (v, H') => (v, H', ds)
  | .deferV x l => (ev τ x).bind fun x => (evs τ l).bind fun l => match x with
    | .fn (.func _) _ _ => some (undefA, H, (x, l) :: ds)
    | _ => none
  | .callM _ _ _ => none

inductive COp where
  | p (o : POp)
  | r (o : ROp)
  | a (o : AOp)
  | x (o : XOp)
structure COper where
  dst : Option Nat
  op : COp
  guard : Option (Nat × Bool)

structure ASt where
  tm : Tm
  H : AHeap
  ds : Dfs
/-- What an operation did. -/
inductive Ev where
  | p
  | r (b n : Nat) (g : ABlk → Option AVal) (v : AVal)
  | a (id : Nat) (blk : ABlk)
  | x (Hb Ha : AHeap)
def put (dst : Option Nat) (v : AVal) (τ : Tm) : Tm := match dst with | some d => (d, v) :: τ | none => τ
/-- Is it wanted? -/
def wantedA (τ : Tm) : Option (Nat × Bool) → Option Bool
  | none => some true
  | some (s, b) => match lk τ s with
    | some (.bool c) => some (c == b)
    | some (.tup []) => some false
    | _ => none
def aop (Φ : Phi) (o : COp) (s : ASt) : Option (AVal × AHeap × Dfs × Ev) :=
  match o with
  | .p o => (apu s.tm o).map fun v => (v, s.H, s.ds, .p)
  | .r o => match ard s.tm o with
    | some (.v x) => x.map fun v => (v, s.H, s.ds, .p)
    | some (.b b g) => (g (s.H.get b)).map fun v => (v, s.H, s.ds, .r b s.H.n g v)
    | none => none
  | .a o => (aal s.tm o).map fun (blk, f) => (f s.H.n, s.H.push blk, s.ds, .a s.H.n blk)
  | .x o => (axo Φ s.tm s.H s.ds o).map fun (v, H', ds') => (v, H', ds', .x s.H H')
def astep (Φ : Phi) (o : COper) (s : ASt) : Option (ASt × Ev) :=
  match wantedA s.tm o.guard with
  | some true => (aop Φ o.op s).map fun (v, H', ds', e) => (⟨put o.dst v s.tm, H', ds'⟩, e)
  | some false => some (⟨put o.dst undefA s.tm, s.H, s.ds⟩, .p)
  | none => none
def arun (Φ : Phi) : List COper → ASt → Option ASt
  | [], s => some s
  | o :: l, s => (astep Φ o s).bind fun (s', _) => arun Φ l s'
/-- The same, where an operation sees what it names alone. -/
def astepD (Φ : Phi) (o : COper) (us : List Nat) (s : ASt) : Option (ASt × AVal × Ev) :=
  match wantedA (restrict us s.tm) o.guard with
  | some true => (aop Φ o.op ⟨restrict us s.tm, s.H, s.ds⟩).map fun (v, H', ds', e) => (⟨put o.dst v s.tm, H', ds'⟩, v, e)
  | some false => some (⟨put o.dst undefA s.tm, s.H, s.ds⟩, undefA, .p)
  | none => none
def atrace (Φ : Phi) : List (COper × List Nat) → ASt → Option (ASt × List Ev)
  | [], s => some (s, [])
  | (o, us) :: l, s => (astepD Φ o us s).bind fun (s', _, e) => (atrace Φ l s').map fun (s'', es) => (s'', e :: es)

def optBeq : Option AVal → AVal → Bool
  | some a, b => AVal.beq a b
  | none, _ => false
def pairsBeq : List (AVal × AVal) → List (AVal × AVal) → Bool
  | [], [] => true
  | (a, b) :: l, (c, d) :: m => AVal.beq a c && AVal.beq b d && pairsBeq l m
  | _, _ => false
def ABlk.beq : ABlk → ABlk → Bool
  | .cells l e s m, .cells l' e' s' m' => AVal.beqs l l' && Nat.beq e e' && Nat.beq s s' && decide (m = m')
  | .map l, .map l' => pairsBeq l l'
  | _, _ => false
/-- Do a read and a write that stand in no order agree? Does a write leave a block alone that may be made behind it? -/
def agree (es : List Ev) (p : Nat × Nat) : Bool :=
  match es[p.1]?, es[p.2]? with
  | some (.r b _ g v), some (.x Hb Ha) => Nat.blt b Hb.n && optBeq (g (Hb.get b)) v && optBeq (g (Ha.get b)) v
  | some (.a id blk), some (.x _ Ha) => if p.1 < p.2 then ABlk.beq (Ha.get id) blk else true
  | _, _ => true

def Ev.inside : Ev → Bool
  | .r b n _ _ => Nat.blt b n
  | _ => true
inductive CCode where
  | skip
  | region (keep : List Nat) (ops : List COper)
  | dregion (keep : List Nat) (ops : List (COper × List Nat)) (rx : List (Nat × Nat))
  | seq (a b : CCode)
  | cond (c : Opd) (a b : CCode)
  | block (id : Nat) (b : CCode)
  | loop (b : CCode)
  | exit (id : Nat)
  | ret
inductive AEx where
  | normal | exit (id : Nat) | ret
def AEx.inBlock (id : Nat) : AEx → AEx
  | .exit j => if Nat.beq j id then .normal else .exit j
  | e => e
def iter (f : ASt → Option (AEx × ASt)) : Nat → ASt → Option (AEx × ASt)
  | 0, _ => none
  | n + 1, s => (f s).bind fun (e, s') => match e with
    | .normal => iter f n s'
    | e => some (e, s')
def fuel : Nat := 2 ^ 64
def aden (Φ : Phi) : CCode → ASt → Option (AEx × ASt)
  | .skip, s => some (.normal, s)
  | .region keep ops, s => (arun Φ ops s).map fun s' => (.normal, { s' with tm := restrict keep s'.tm })
  | .dregion keep ops rx, s => (atrace Φ ops s).bind fun (s', es) => if es.all Ev.inside && rx.all (agree es) then some (.normal, { s' with tm := restrict keep s'.tm }) else none
  | .seq a b, s => (aden Φ a s).bind fun (e, s') => match e with
    | .normal => aden Φ b s'
    | e => some (e, s')
  | .cond c a b, s => match ev s.tm c with
    | some (.bool true) => aden Φ a s
    | some (.bool false) => aden Φ b s
    | _ => none
  | .block id b, s => (aden Φ b s).map fun (e, s') => (e.inBlock id, s')
  | .loop b, s => iter (aden Φ b) fuel s
  | .exit id, s => some (.exit id, s)
  | .ret, s => some (.ret, s)

inductive CRes where
  | t (i : Nat)
  | cell (i : Nat) (agg : Bool) (n : Nat)
structure CFunc where
  np : Nat
  code : CCode
  res : List CRes
def enum : Nat → List AVal → Tm
  | _, [] => []
  | i, v :: l => (i, v) :: enum (i + 1) l
def resA (τ : Tm) (H : AHeap) : List CRes → Option (List AVal)
  | [] => some []
  | .t i :: l => (lk τ i).bind fun v => (resA τ H l).map fun r => v :: r
  | .cell i agg n :: l => match lk τ i with
    | some (.ptr b o) => (ABlk.read agg o n (H.get b)).bind fun v => (resA τ H l).map fun r => v :: r
    | _ => none
def runDfs (Φ : Phi) : Dfs → AHeap → Option AHeap
  | [], H => some H
  | (f, args) :: ds, H => (callVal Φ f args H).bind fun (_, H') => runDfs Φ ds H'
def tupA : List AVal → AVal
  | [v] => v
  | l => .tup l
def denF (Φ Ψ : Phi) (c : CFunc) (args : List AVal) (H : AHeap) : Option (AVal × AHeap) :=
  if args.length = c.np then
    (aden Φ c.code ⟨enum 0 args, H, []⟩).bind fun (e, s) => match e with
      | .exit _ => none
      | _ => (runDfs Ψ s.ds s.H).bind fun H' => (resA s.tm H' c.res).map fun l => (tupA l, H')
  else none
end Go.Eng
