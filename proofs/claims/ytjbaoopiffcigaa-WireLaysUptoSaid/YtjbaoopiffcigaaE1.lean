/- The engine, part 1: data, abstract values, an abstract evaluator over the model's code. Conditions: none (definitions). -/
import Derived.Calls
import Derived.Orders
import Derived.Scope
namespace Go.Eng

/-- Data: what a value reads as. -/
inductive D where
  | lit (v : Value)
  | str (s : List UInt8)
  | agg (l : List D)
  | sl (l : List D)

/-- Abstract values. -/
inductive AV where
  | d (x : D)
  | snil
  | full (l : List D)
  | ptr (loc ep idx off : Nat)
  | sref (loc ep es off len : Nat)
  | eptr (x : D) (off : Nat)
  | tptr (t n loc off : Nat)
  | tsref (t loc ep es len : Nat)
  | fn (f : FuncId) (cap : List AV)
  | agg (l : List AV)
  | tup (l : List AV)
  | undef

structure Blk where
  es : Nat
  elems : List AV
  row : Bool
  shut : Bool
  virt : Bool

abbrev Store := List Blk

structure S where
  t : List (Nat × AV)
  st : Store

inductive TK where
  | int (k : IntKind) | bool | str | slice (e : TypeId) | struct (fs : Option (List (Nat × Nat))) | arr (n : Nat) (e : TypeId) | ptr | fn | other

structure TI where
  k : TK
  size : Nat
  bytes : Nat
  zero : Option Value

def kOf (P : Program) : TypeDesc → TK
  | .int k => .int k
  | .bool => .bool
  | .string => .str
  | .slice e => .slice e
  | .struct fs => .struct (fs.toList.mapM fun f => (P.info? f.type).map fun i => (f.offset, i.size))
  | .array n e => .arr n e
  | .pointer _ => .ptr
  | .func .. => .fn
  | _ => .other

def tiOf (P : Program) (t : TypeId) : Option TI :=
  match P.info? t, P.underlying t with
  | some i, some d => some ⟨kOf P d, i.size, i.bytes, i.zero⟩
  | _, _ => none

def TI.agg (i : TI) : Bool := match i.k with | .struct _ | .arr _ _ => true | _ => false

structure Ann where
  keep : List (Nat × List Nat) := []      -- by the region's number: temporaries that live on behind it
  loops : List (Nat × List Nat) := []     -- by the first region's number of the body: temporaries that live at the head
  virt : List Nat := []                   -- destinations whose nil slices are rows to come
  wr : List Nat := []                     -- destinations whose new rows may be written
  ty : List Nat := []                     -- new variables whose type is kept with their address
  dyn : List (Nat × Nat) := []            -- drawn regions whose operations from a place on may come in any order, being apart

structure Ctx where
  P : Program
  use : FuncId → Bool
  pure : FuncId → Bool
  prim : FuncId → Option (List AV → Store → Option (AV × Store))
  ann : FuncId → Ann

/-! ### temporaries -/
def look : List (Nat × AV) → Nat → AV
  | [], _ => .undef
  | (j, v) :: r, k => bif j == k then v else look r k

def upd : List (Nat × AV) → Nat → AV → List (Nat × AV)
  | [], k, v => [(k, v)]
  | (j, u) :: r, k, v => bif j == k then (k, v) :: r else (j, u) :: upd r k v

def assoc : List (Nat × List Nat) → Nat → Option (List Nat)
  | [], _ => none
  | (j, v) :: r, k => bif j == k then some v else assoc r k

def memN : List Nat → Nat → Bool
  | [], _ => false
  | j :: r, k => j == k || memN r k

def keepT (ks : List Nat) : List (Nat × AV) → List (Nat × AV)
  | [] => []
  | (j, v) :: r => bif memN ks j then (j, v) :: keepT ks r else keepT ks r

def constAV1 : Value → AV
  | .string s => .d (.str s.data.toList)
  | .slice none 0 0 => .snil
  | .agg _ => .undef
  | .tuple _ => .undef
  | v => .d (.lit v)

def cellV : Value → Bool
  | .agg _ => false
  | .tuple _ => false
  | _ => true

def allCell : List Value → Bool
  | [] => true
  | v :: r => cellV v && allCell r

def constAV : Value → AV
  | .agg cs => bif allCell cs.toList then .agg (cs.toList.map constAV1) else .undef
  | v => constAV1 v

def opv (t : List (Nat × AV)) : Operand → AV
  | .tmp k => look t k
  | .const v => constAV v
  | .func f => .fn f []
  | .global _ => .undef

/-! ### values and their cells -/
def AV.cells : AV → List AV
  | .d (.agg l) => l.map .d
  | .agg l => l
  | .tup _ => []
  | .undef => []
  | v => [v]

def AV.isAgg : AV → Bool
  | .d (.agg _) => true
  | .agg _ => true
  | _ => false

def part (agg : Bool) (size off : Nat) (v : AV) : Option AV :=
  bif agg then
    match v with
    | .d (.agg l) => bif off == 0 && l.length == size then some v else bif Nat.ble (off + size) l.length then some (.d (.agg ((l.drop off).take size))) else none
    | .agg l => bif off == 0 && l.length == size then some v else bif Nat.ble (off + size) l.length then some (.agg ((l.drop off).take size)) else none
    | _ => none
  else v.cells[off]?

def setPart (off : Nat) (new v : AV) : Option AV :=
  bif v.isAgg then
    bif new.isAgg && (off == 0 && new.cells.length == v.cells.length) then some new
    else bif Nat.ble (off + new.cells.length) v.cells.length then some (.agg (v.cells.take off ++ (new.cells ++ v.cells.drop (off + new.cells.length)))) else none
  else bif off == 0 && !new.isAgg && v.cells.length == 1 then some new else none

def getBlk (st : Store) (loc ep : Nat) : Option Blk :=
  match st[loc]? with
  | some b => bif b.elems.length == ep then some b else none
  | none => none

def fzAll (f : AV → Option D) : List AV → Option (List D)
  | [] => some []
  | a :: r => match f a, fzAll f r with
    | some x, some l => some (x :: l)
    | _, _ => none

/-- A value as data, where it can be told so for good (brw: for the time being). -/
def fz (brw : Bool) (st : Store) : Nat → AV → Option D
  | 0, _ => none
  | n + 1, v => match v with
    | .d x => some x
    | .snil => some (.sl [])
    | .full l => some (.sl l)
    | .fn f [] => some (.lit (.func (.func f) #[] #[]))
    | .agg l => (fzAll (fz brw st n) l).map .agg
    | .sref loc ep _ off len => (getBlk st loc ep).bind fun b =>
        bif b.row && (brw || b.shut) && Nat.ble (off + len) b.elems.length then (fzAll (fz brw st n) ((b.elems.drop off).take len)).map .sl else none
    | _ => none

def fzE (st : Store) (v : AV) : AV :=
  match fz false st 6 v with
  | some x => .d x
  | none => v

-- holds data no slice?
mutual
def D.flat : D → Bool
  | .lit _ => true
  | .str _ => true
  | .agg l => D.flats l
  | .sl _ => false
def D.flats : List D → Bool
  | [] => true
  | x :: r => x.flat && D.flats r
end

mutual
def AV.under1 (n : Nat) : AV → Bool
  | .ptr loc _ _ _ => Nat.blt loc n
  | .tptr _ _ loc _ => Nat.blt loc n
  | .tsref _ loc _ _ _ => Nat.blt loc n
  | .sref loc _ _ _ _ => Nat.blt loc n
  | .fn _ l => AV.under1s n l
  | .agg l => AV.under1s n l
  | .tup l => AV.under1s n l
  | _ => true
def AV.under1s (n : Nat) : List AV → Bool
  | [] => true
  | x :: r => x.under1 n && AV.under1s n r
end

def belowT (n : Nat) : List (Nat × AV) → Bool
  | [] => true
  | (_, v) :: r => v.under1 n && belowT n r

def belowB (n : Nat) : Store → Bool
  | [] => true
  | b :: r => AV.under1s n b.elems && belowB n r

def trimS (n0 : Nat) (s : S) : S :=
  bif belowT n0 s.t && belowB n0 (s.st.take n0) then ⟨s.t, s.st.take n0⟩ else s

/-! ### operations -/
def asI : AV → Option Int
  | .d (.lit (.int _ n)) => some n
  | _ => none

def asB : AV → Option Bool
  | .d (.lit (.bool b)) => some b
  | _ => none

abbrev R := Option (AV × Store)

def val (st : Store) (v : Option AV) : R := v.map fun v => (v, st)

def virtCells (sh : Bool) (n : Nat) : List AV → List AV × List Blk
  | [] => ([], [])
  | .snil :: r => let (cs, bs) := virtCells sh (n + 1) r; (.sref n 0 0 0 0 :: cs, ⟨0, [], true, sh, true⟩ :: bs)
  | v :: r => let (cs, bs) := virtCells sh n r; (v :: cs, bs)

def virtAV (sh : Bool) (n : Nat) (v : AV) : AV × List Blk :=
  match v with
  | .agg l => let (cs, bs) := virtCells sh n l; (.agg cs, bs)
  | .snil => (.sref n 0 0 0 0, [⟨0, [], true, sh, true⟩])
  | v => (v, [])

def newVarV (st : Store) (size : Nat) (vi sh : Bool) (v : AV) : R :=
  bif vi then
    let (v', bs) := virtAV sh (st.length + 1) v
    some (.ptr st.length 1 0 0, st ++ (⟨size, [v'], false, false, false⟩ :: bs))
  else some (.ptr st.length 1 0 0, st ++ [⟨size, [v], false, false, false⟩])

def tagR (t n loc : Nat) (r : R) : R := r.map fun p => (.tptr t n loc 0, p.2)

def newRowV (st : Store) (size : Nat) (wr : Bool) (l : List AV) : R :=
  some (.sref st.length l.length size 0 l.length, st ++ [⟨size, l, true, !wr, false⟩])

/-- A pointer without the note of what it was made for. -/
def AV.unt : AV → AV
  | .tptr _ _ loc off => .ptr loc 1 0 off
  | .tsref _ loc ep es len => .sref loc ep es 0 len
  | v => v

def ldPtr0 (st : Store) (i : TI) : AV → Option AV
  | .ptr loc ep idx off => (getBlk st loc ep).bind fun b => (b.elems[idx]?).bind fun e => part i.agg i.size off e
  | .eptr x off => part i.agg i.size off (.d x)
  | _ => none

def ldPtr (st : Store) (i : TI) (p : AV) : Option AV := ldPtr0 st i p.unt

def stPtr0 (st : Store) (i : TI) (p v : AV) : R :=
  match p with
  | .ptr loc ep idx off => (getBlk st loc ep).bind fun b =>
      bif b.shut || !(v.cells.length == i.size && !(i.size == 0)) then none else
      (b.elems[idx]?).bind fun e => (setPart off v e).map fun e' => (.tup [], st.set loc { b with elems := b.elems.set idx e' })
  | _ => none

def stPtr (st : Store) (i : TI) (p v : AV) : R := stPtr0 st i p.unt v

def nilOk (x : AV) : Option AV :=
  match x with
  | .tptr .. => some x
  | .ptr .. => some x
  | .eptr .. => some x
  | .fn .. => some x
  | _ => none

def fieldP (i : TI) (f : Nat) (p : AV) : Option AV :=
  match i.k with
  | .struct (some fs) => (fs[f]?).bind fun (o, sz) => bif sz == 0 then none else
    match p with
    | .ptr loc ep idx off => some (.ptr loc ep idx (off + o))
    | .eptr x off => some (.eptr x (off + o))
    | .tptr t n loc off => some (.tptr t n loc (off + o))
    | _ => none
  | _ => none

def idxI (i : Int) (n : Nat) : Option Nat := if 0 ≤ i then (bif Nat.blt i.toNat n then some i.toNat else none) else none

def indexP (P : Program) (i : TI) (x : AV) (ix : Int) : Option AV :=
  match i.k with
  | .slice e => (tiOf P e).bind fun ei => match x with
    | .sref loc ep es off len => bif es == ei.size then (idxI ix len).map fun k => .ptr loc ep (off + k) 0 else none
    | .d (.sl l) => (idxI ix l.length).bind fun k => (l[k]?).bind fun e => bif (AV.d e).cells.length == ei.size then some (.eptr e 0) else none
    | .full l => (idxI ix l.length).bind fun k => (l[k]?).bind fun e => bif (AV.d e).cells.length == ei.size then some (.eptr e 0) else none
    | _ => none
  | .arr n e => (tiOf P e).bind fun ei => bif ei.size == 0 then none else (idxI ix n).bind fun k => match x with
    | .ptr loc ep idx off => some (.ptr loc ep idx (off + k * ei.size))
    | .eptr x off => some (.eptr x (off + k * ei.size))
    | _ => none
  | _ => none

def indexV (i : TI) (x : AV) (ix : Int) : Option AV :=
  match i.k with
  | .str => match x with
    | .d (.str s) => (idxI ix s.length).bind fun k => (s[k]?).map fun c => .d (.lit (.int .u8 c.toNat))
    | _ => none
  | _ => none

def binI (op : BinOp) (k : IntKind) (a b : Int) : Option D :=
  match op with
  | .add => some (.lit (.int k (k.wrap (a + b))))
  | .sub => some (.lit (.int k (k.wrap (a - b))))
  | .mul => some (.lit (.int k (k.wrap (a * b))))
  | .quo => if b = 0 then none else some (.lit (.int k (k.wrap (a.tdiv b))))
  | .rem => if b = 0 then none else some (.lit (.int k (a.tmod b)))
  | .and => some (.lit (.int k (k.wrap (BitVec.ofInt k.bits a &&& BitVec.ofInt k.bits b).toNat)))
  | .or => some (.lit (.int k (k.wrap (BitVec.ofInt k.bits a ||| BitVec.ofInt k.bits b).toNat)))
  | .xor => some (.lit (.int k (k.wrap (BitVec.ofInt k.bits a ^^^ BitVec.ofInt k.bits b).toNat)))
  | .andNot => some (.lit (.int k (k.wrap (BitVec.ofInt k.bits a &&& ~~~ BitVec.ofInt k.bits b).toNat)))
  | .eql => some (.lit (.bool (a == b)))
  | .neq => some (.lit (.bool (a != b)))
  | .lss => some (.lit (.bool (decide (a < b))))
  | .leq => some (.lit (.bool (decide (a ≤ b))))
  | .gtr => some (.lit (.bool (decide (a > b))))
  | .geq => some (.lit (.bool (decide (a ≥ b))))
  | _ => none

def shiftI (op : BinOp) (k : IntKind) (a b : Int) : Option D :=
  if b < 0 then none else
  match op with
  | .shl => some (.lit (.int k (k.wrap (a * 2 ^ (min b.toNat k.bits)))))
  | .shr => some (.lit (.int k (a.fdiv (2 ^ (min b.toNat k.bits)))))
  | _ => none

def strMost : Nat := 2 ^ 60

def binS (op : BinOp) (a b : List UInt8) : Option D :=
  match op with
  | .add => bif Nat.ble (a.length + b.length) strMost then some (.str (a ++ b)) else none
  | .eql => some (.lit (.bool (a == b)))
  | .neq => some (.lit (.bool (!(a == b))))
  | .lss => some (.lit (.bool (Op.bytesLess a b)))
  | .leq => some (.lit (.bool (Op.bytesLess a b || a == b)))
  | .gtr => some (.lit (.bool (!(Op.bytesLess a b || a == b))))
  | .geq => some (.lit (.bool (!(Op.bytesLess a b))))
  | _ => none

def binB (op : BinOp) (a b : Bool) : Option D :=
  match op with
  | .eql => some (.lit (.bool (a == b)))
  | .neq => some (.lit (.bool (!(a == b))))
  | _ => none

/-- Is it nil? (a slice, a pointer, a function) -/
def isNilS (st : Store) : AV → Option Bool
  | .snil => some true
  | .full (_ :: _) => some false
  | .d (.sl (_ :: _)) => some false
  | .sref loc ep _ _ _ => (getBlk st loc ep).map (·.virt)
  | _ => none

def isNilP : AV → Option Bool
  | .tptr .. => some false
  | .ptr .. => some false
  | .eptr .. => some false
  | .d (.lit (.pointer none)) => some true
  | _ => none

def isNilF : AV → Option Bool
  | .fn .. => some false
  | .d (.lit .nilFunc) => some true
  | _ => none

def isNil (st : Store) (k : TK) (x : AV) : Option Bool :=
  match k with
  | .slice _ => isNilS st x
  | .ptr => isNilP x
  | .fn => isNilF x
  | _ => none

def isNilLit (k : TK) (y : AV) : Bool :=
  match k with
  | .slice _ => (match y with | .snil => true | _ => false)
  | .ptr => (match y with | .d (.lit (.pointer none)) => true | _ => false)
  | .fn => (match y with | .d (.lit .nilFunc) => true | _ => false)
  | _ => false

def tkOf (P : Program) (t : TypeId) : TK := match tiOf P t with | some i => i.k | none => .other

def nilV (k : TK) (op : BinOp) (st : Store) (x y : AV) : Option AV :=
  bif isNilLit k y then (match op with
    | .eql => (isNil st k x).map fun b => .d (.lit (.bool b))
    | .neq => (isNil st k x).map fun b => .d (.lit (.bool (!b)))
    | _ => none)
  else none

def binV (P : Program) (t : TypeId) (op : BinOp) (st : Store) (x y : AV) : Option AV :=
  match x, y with
  | .d (.lit (.int k a)), .d (.lit (.int k' b)) =>
    match op with
    | .shl => (shiftI .shl k a b).map .d
    | .shr => (shiftI .shr k a b).map .d
    | op => if k = k' then (binI op k a b).map .d else none
  | .d (.str a), .d (.str b) => (binS op a b).map .d
  | .d (.lit (.bool a)), .d (.lit (.bool b)) => (match tkOf P t with | .bool => (binB op a b).map .d | _ => none)
  | x, y => nilV (tkOf P t) op st x y

def unV (op : UnOp) (x : AV) : Option AV :=
  match op, x with
  | .not, .d (.lit (.bool b)) => some (.d (.lit (.bool (!b))))
  | .neg, .d (.lit (.int k n)) => some (.d (.lit (.int k (k.wrap (0 - n)))))
  | .xor, .d (.lit (.int k n)) => some (.d (.lit (.int k (k.wrap (BitVec.ofInt k.bits (if k.signed then -1 else k.max) ^^^ BitVec.ofInt k.bits n).toNat))))
  | _, _ => none

def elemsOf (st : Store) : AV → Option (List AV)
  | .snil => some []
  | .full l => some (l.map .d)
  | .d (.sl l) => some (l.map .d)
  | .d (.str s) => some (s.map fun c => .d (.lit (.int .u8 c.toNat)))
  | .sref loc ep _ off len => (getBlk st loc ep).bind fun b => bif Nat.ble (off + len) b.elems.length then some ((b.elems.drop off).take len) else none
  | _ => none

def sliceMost : Nat := 2 ^ 30

def fitL (n : Nat) : List AV → Bool
  | [] => true
  | x :: r => x.cells.length == n && fitL n r

def zeroOk (ei : TI) : Bool :=
  match ei.zero with
  | some z => z.cells.size == ei.size
  | none => false

def appV (st : Store) (ei : TI) (wr : Bool) (base x : AV) : R :=
  (elemsOf st x).bind fun xs =>
  bif ei.size == 0 || Nat.blt 16384 ei.bytes || !(fitL ei.size xs && zeroOk ei) then none else
  match base with
  | .snil => bif xs.isEmpty then some (base, st) else bif Nat.blt sliceMost xs.length then none else newRowV st ei.size wr (xs.map (fzE st))
  | .full l => bif xs.isEmpty then some (base, st) else bif Nat.blt sliceMost (l.length + xs.length) || !(fitL ei.size (l.map .d)) then none else newRowV st ei.size wr (l.map .d ++ xs.map (fzE st))
  | .d (.sl _) => bif xs.isEmpty then some (base, st) else none
  | .sref loc ep _ 0 len => (getBlk st loc ep).bind fun b =>
      bif b.row && b.elems.length == len && (b.virt || b.es == ei.size) && !(Nat.blt sliceMost (len + xs.length)) then
        some (.sref loc (len + xs.length) ei.size 0 (len + xs.length), st.set loc { es := ei.size, elems := b.elems ++ xs.map (fzE st), row := true, shut := b.shut, virt := b.virt && xs.isEmpty })
      else none
  | _ => none

def lenV : AV → Option Nat
  | .snil => some 0
  | .full l => some l.length
  | .d (.sl l) => some l.length
  | .d (.str s) => some s.length
  | .sref _ _ _ _ len => some len
  | _ => none

def intD (n : Int) : AV := .d (.lit (.int .i64 n))

def bnd (d : Nat) : Option AV → Option Nat
  | none => some d
  | some v => (asI v).bind fun n => if 0 ≤ n then some n.toNat else none

def sliceV (P : Program) (st : Store) (i : TI) (x : AV) (lo hi mx : Option AV) : Option AV :=
  match i.k with
  | .str => match x, mx with
    | .d (.str s), none => (bnd 0 lo).bind fun l => (bnd s.length hi).bind fun h => bif Nat.ble l h && Nat.ble h s.length then some (.d (.str ((s.drop l).take (h - l)))) else none
    | _, _ => none
  | .slice e => (tiOf P e).bind fun ei => (lenV x).bind fun n => (bnd 0 lo).bind fun l => (bnd n hi).bind fun h => (bnd h mx).bind fun m =>
      bif Nat.ble l h && Nat.ble h n && m == h && (hi.isSome || mx.isNone) && !(ei.size == 0) then
        (bif mx.isNone then (match x with
          | .sref loc ep es off _ => bif es == ei.size then (bif l == h then some (.d (.sl [])) else some (.sref loc ep es (off + l) (h - l))) else none
          | .d (.sl v) => bif l == 0 || fitL ei.size (v.map .d) then some (.d (.sl ((v.drop l).take (h - l)))) else none
          | .full v => bif l == 0 || fitL ei.size (v.map .d) then (bif h == n then some (.full ((v.drop l).take (h - l))) else some (.d (.sl ((v.drop l).take (h - l))))) else none
          | .snil => some .snil
          | _ => none)
        else (match x with
          | .d (.sl v) => bif l == 0 || fitL ei.size (v.map .d) then some (.full ((v.drop l).take (h - l))) else none
          | .full v => bif l == 0 || fitL ei.size (v.map .d) then some (.full ((v.drop l).take (h - l))) else none
          | .snil => some .snil
          | .sref loc ep es off _ => bif es == ei.size then (bif l == h then some (.full []) else match fz false st 6 (.sref loc ep es (off + l) (h - l)) with
            | some (.sl v) => some (.full v)
            | _ => none) else none
          | _ => none))
      else none
  | _ => none

def bytesOf : List AV → Option (List UInt8)
  | [] => some []
  | .d (.lit (.int .u8 n)) :: r => (bytesOf r).map (UInt8.ofNat n.toNat :: ·)
  | _ => none

def convV (P : Program) (src dst : TypeId) (wr : Bool) (st : Store) (x : AV) : R :=
  match tiOf P src, tiOf P dst with
  | some si, some di =>
    match di.k, x with
    | .int k, .d (.lit (.int _ n)) => val st (some (.d (.lit (.int k (k.wrap n)))))
    | .str, .d (.str s) => val st (some (.d (.str s)))
    | .slice e, .d (.str s) => (match tiOf P e with
      | some ⟨.int .u8, _, _, _⟩ => bif Nat.ble s.length sliceMost then newRowV st 1 wr (s.map fun c => .d (.lit (.int .u8 c.toNat))) else none
      | _ => none)
    | .str, x => (match si.k with
      | .slice e => (match tiOf P e with
        | some ⟨.int .u8, _, _, _⟩ => (elemsOf st x).bind fun l => val st ((bytesOf l).map fun s => .d (.str s))
        | _ => none)
      | _ => none)
    | _, _ => none
  | _, _ => none

def pickV (c : Bool) (x y : AV) : AV :=
  match x, y with
  | .d (.lit (.bool p)), .d (.lit (.bool q)) => .d (.lit (.bool (bif c then p else q)))
  | .d (.lit (.int k p)), .d (.lit (.int k' q)) => if k = k' then .d (.lit (.int k (bif c then p else q))) else bif c then x else y
  | .d (.str p), .d (.str q) => .d (.str (bif c then p else q))
  | x, y => bif c then x else y

def fillL : List (Nat × AV) → List AV → Option (List AV)
  | [], l => some l
  | (i, v) :: r, l => bif Nat.blt i l.length then fillL r (l.set i v) else none

def buildV (i : TI) (parts : List (Nat × AV)) : Option AV :=
  match i.k, i.zero with
  | .struct (some fs), some z => bif (constAV z).cells.length == i.size && !(i.size == 0) then buildS fs (constAV z) parts else none
  | _, _ => none
where
  buildS (fs : List (Nat × Nat)) (z : AV) : List (Nat × AV) → Option AV
    | [] => some (.agg z.cells)
    | (f, v) :: r => (fs[f]?).bind fun (o, sz) =>
        bif v.cells.length == sz && Nat.ble (o + sz) z.cells.length && !(sz == 0) then
          buildS fs (.agg (z.cells.take o ++ (v.cells ++ z.cells.drop (o + sz)))) r
        else none

def buildSl (P : Program) (t : TypeId) (len : Nat) (row wr : Bool) (parts : List (Nat × AV)) (st : Store) : R :=
  match tiOf P t with
  | some ⟨.slice e, _, _, _⟩ => (match tiOf P e with
    | some ei => (match ei.zero with
      | some z => bif ei.size == 0 || Nat.blt 1000 len || Nat.blt 1000 ei.size || !(fitL ei.size (parts.map (·.2))) || !((constAV z).cells.length == ei.size) then none else
        (fillL parts (List.replicate len (constAV z))).bind fun l =>
        match (bif row then none else fzAll (fz false st 6) l) with
        | some ds => some (.full ds, st)
        | none => newRowV st ei.size wr (l.map (fzE st))
      | none => none)
    | none => none)
  | _ => none

def max2V (mn : Bool) (a y : AV) : Option AV :=
  match a, y with
  | .d (.lit (.int k p)), .d (.lit (.int _ q)) => some (.d (.lit (.int k (if mn then (if q < p then q else p) else (if q > p then q else p)))))
  | _, _ => none

def maxF (mn : Bool) : AV → List AV → Option AV
  | x, [] => some x
  | x, y :: r => (max2V mn x y).bind fun z => maxF mn z r

def maxL (mn : Bool) : List AV → Option AV
  | [] => none
  | x :: r => maxF mn x r

/-! ### calls -/
/-- What a pure call hands back: data; or a row of its own; or a slice without room. -/
inductive PV where
  | d (x : D)
  | own (es : Nat) (l : List AV) (shut : Bool)
  | full (l : List D)
  | snil

inductive PR where
  | one (v : PV)
  | tup (v : PV) (r : List D)
  | unit

def pv1 (st : Store) : AV → Option PV
  | .snil => some .snil
  | .full l => some (.full l)
  | .sref loc ep _ 0 len => (getBlk st loc ep).bind fun b =>
      bif !b.row || !(b.elems.length == len) then none else
      bif b.virt then some .snil else (fzAll (fz b.shut st 6) b.elems).map fun l => .own b.es (l.map .d) b.shut
  | v => (fz true st 6 v).map .d

def prOf (r : AV × Store) : Option PR :=
  match r.1 with
  | .tup [] => some .unit
  | .tup (a :: l) => (pv1 r.2 a).bind fun v => (fzAll (fz true r.2 6) l).map fun l => .tup v l
  | a => (pv1 r.2 a).map .one

def PV.flat : PV → Bool
  | .d x => x.flat
  | .snil => true
  | _ => false

def PR.flat : PR → Bool
  | .unit => true
  | .one v => v.flat
  | .tup v l => v.flat && D.flats l

/-- A pure call's result, in the caller's store. -/
def pvIn (wr lone : Bool) (st : Store) : PV → AV × Store
  | .d x => (.d x, st)
  | .own es l shut => (.sref st.length l.length es 0 l.length, st ++ [⟨es, l, true, shut || !(wr && lone), false⟩])
  | .full l => (.full l, st)
  | .snil => (.snil, st)

def prIn (wr : Bool) (st : Store) : PR → AV × Store
  | .unit => (.tup [], st)
  | .one v => pvIn wr true st v
  | .tup v l => let (a, st') := pvIn wr false st v; (.tup (a :: l.map .d), st')

abbrev Call := FuncId → List AV → Store → R

def pureCall (call : Call) (f : FuncId) (ds : List D) : Option PR := (call f (ds.map .d) []).bind prOf

def trimR (n0 : Nat) (r : AV × Store) : AV × Store :=
  bif r.1.under1 n0 && belowB n0 (r.2.take n0) then (r.1, r.2.take n0) else r

def callV (X : Ctx) (call : Call) (wr : Bool) (f : FuncId) (args : List AV) (st : Store) : R :=
  match X.prim f with
  | some p => p args st
  | none =>
    bif X.pure f then
      match fzAll (fz false st 6) args with
      | some ds => (pureCall call f ds).map (prIn wr st)
      | none => (fzAll (fz true st 6) args).bind fun ds => (pureCall call f ds).bind fun r => bif r.flat then some (prIn wr st r) else none
    else (call f args st).map (trimR st.length)

def targetOf : AV → Option (FuncId × List AV)
  | .fn f cap => some (f, cap)
  | .d (.lit (.func (.func f) ⟨[]⟩ ⟨[]⟩)) => some (f, [])
  | _ => none

def elemTI (P : Program) (t : TypeId) : Option TI :=
  match tiOf P t with
  | some ⟨.slice e, _, _, _⟩ => tiOf P e
  | _ => none

def lenSl (x : AV) : Option AV :=
  match x with
  | .snil => some (intD 0)
  | .full l => some (intD l.length)
  | .d (.sl l) => some (intD l.length)
  | .sref _ _ _ _ len => some (intD len)
  | _ => none

def lenStr (x : AV) : Option AV :=
  match x with
  | .d (.str s) => some (intD s.length)
  | _ => none

def lenOp (P : Program) (types : Array TypeId) (x : AV) : Option AV :=
  match (types[0]?).bind (tiOf P) with
  | some i => (match i.k with
    | .slice _ => lenSl x
    | .str => lenStr x
    | _ => none)
  | none => none

def appOp (P : Program) (types : Array TypeId) (wr : Bool) (st : Store) (x y : AV) : R :=
  match (types[0]?).bind (elemTI P), (types[1]?).bind (tiOf P) with
  | some ei, some ti => (match ti.k with
    | .int _ => none
    | _ => appV st ei wr x y)
  | _, _ => none

def elemId (P : Program) (t : TypeId) : Option TypeId :=
  match tiOf P t with
  | some ⟨.slice e, _, _, _⟩ => some e
  | _ => none

def tagS (t : Nat) : AV → AV
  | .sref loc ep es off len => bif off == 0 then .tsref t loc ep es len else .sref loc ep es off len
  | v => v

def tagOk (t : Nat) : AV → Bool
  | .snil => true
  | .tsref t' _ _ _ _ => t' == t
  | _ => false

/-- An append whose row's type is kept. -/
def tagA (P : Program) (types : Array TypeId) (ty : Bool) (x : AV) (r : R) : R :=
  bif ty then
    match (types[0]?).bind (elemId P) with
    | some e => bif tagOk e x then r.map fun p => (tagS e p.1, p.2) else r
    | none => r
  else r

def builtinV (X : Ctx) (b : Builtin) (types : Array TypeId) (wr ty : Bool) (args : List AV) (st : Store) : R :=
  match b with
  | .len => (match args with
    | [x] => val st (lenOp X.P types x.unt)
    | _ => none)
  | .append => (match args with
    | [x, y] => tagA X.P types ty x (appOp X.P types wr st x.unt y)
    | _ => none)
  | .max => val st (maxL false args)
  | .min => val st (maxL true args)
  | _ => none

def flagOf (l : List Nat) (d : Option Nat) : Bool :=
  match d with
  | some d => memN l d
  | none => false

def opE (X : Ctx) (an : Ann) (call : Call) (o : Oper) (ρ : Operand → AV) (st : Store) : R :=
  match o.op with
  | .move x => val st (some (ρ x))
  | .assign x => bif (flagOf an.virt o.dst) then (let (v, bs) := virtAV (!(flagOf an.wr o.dst)) st.length (ρ x); some (v, st ++ bs)) else val st (some (ρ x))
  | .pick c a b => val st ((asB (ρ c)).map fun t => pickV t (ρ a) (ρ b))
  | .alloc t => (tiOf X.P t).bind fun i => i.zero.bind fun z => bif (constAV z).cells.length == i.size && !(i.size == 0) then (bif flagOf an.ty o.dst then tagR t i.size st.length (newVarV st i.size (flagOf an.virt o.dst) (!(flagOf an.wr o.dst)) (constAV z)) else newVarV st i.size (flagOf an.virt o.dst) (!(flagOf an.wr o.dst)) (constAV z)) else none
  | .box t v => (tiOf X.P t).bind fun i => bif (ρ v).cells.length == i.size && !(i.size == 0) then newVarV st i.size (flagOf an.virt o.dst) (!(flagOf an.wr o.dst)) (ρ v) else none
  | .build t ps => (tiOf X.P t).bind fun i => val st (buildV i (ps.toList.map fun p => (p.1, ρ p.2)))
  | .buildSlice t n ps => buildSl X.P t n ((flagOf an.wr o.dst) || (flagOf an.virt o.dst)) (flagOf an.wr o.dst) (ps.toList.map fun p => (p.1, ρ p.2)) st
  | .load t a => (tiOf X.P t).bind fun i => val st (ldPtr st i (ρ a))
  | .store t a v => (tiOf X.P t).bind fun i => stPtr st i (ρ a) (ρ v)
  | .nilCheck x => val st (nilOk (ρ x))
  | .binOp op t x y _ => val st (binV X.P t op st (ρ x) (ρ y))
  | .unOp op _ x => val st (unV op (ρ x))
  | .convert s t x => convV X.P s t (flagOf an.wr o.dst) st (ρ x)
  | .makeFunc fn first cap => (match fn with
    | .func f => bif first.size == 0 then val st (some (.fn f (cap.toList.map ρ))) else none
    | _ => none)
  | .slice t x lo hi mx => (tiOf X.P t).bind fun i => val st (sliceV X.P st i (ρ x) (lo.map ρ) (hi.map ρ) (mx.map ρ))
  | .fieldAddr t x f => (tiOf X.P t).bind fun i => val st (fieldP i f (ρ x))
  | .indexAddr t x ix => (tiOf X.P t).bind fun i => (asI (ρ ix)).bind fun n => val st (indexP X.P i (ρ x) n)
  | .index t x ix => (tiOf X.P t).bind fun i => (asI (ρ ix)).bind fun n => val st (indexV i (ρ x) n)
  | .extract x k => (match ρ x with
    | .tup l => val st (l[k]?)
    | _ => none)
  | .call c => (match c.callee with
    | .builtin b => builtinV X b c.argTypes (flagOf an.wr o.dst) (flagOf an.ty o.dst) (c.args.toList.map ρ) st
    | .value f => (targetOf (ρ f)).bind fun (g, cap) => callV X call (flagOf an.wr o.dst) g (c.args.toList.map ρ ++ cap) st
    | .invoke .. => none)
  | _ => none

def putD (t : List (Nat × AV)) (d : Option Nat) (v : AV) : List (Nat × AV) :=
  match d with
  | some k => upd t k v
  | none => t

def stepO (X : Ctx) (an : Ann) (call : Call) (ops : Array Oper) (o : Oper) (s : S) : Option S :=
  match o.guard with
  | none => (opE X an call o (opv s.t) s.st).map fun (v, st) => ⟨putD s.t o.dst v, st⟩
  | some (j, want) =>
    match (ops[j]?).bind (·.dst) with
    | none => none
    | some d =>
      match look s.t d with
      | .d (.lit (.bool b)) => bif b == want then (opE X an call o (opv s.t) s.st).map fun (v, st) => ⟨putD s.t o.dst v, st⟩ else some ⟨putD s.t o.dst (.tup []), s.st⟩
      | .tup [] => some ⟨putD s.t o.dst (.tup []), s.st⟩
      | _ => none

def stepsO (X : Ctx) (an : Ann) (call : Call) (ops : Array Oper) : List Oper → S → Option S
  | [], s => some s
  | o :: r, s => (stepO X an call ops o s).bind (stepsO X an call ops r)

inductive Ex where
  | norm | exit (id : Nat) | goto (l : Nat) | ret

def firstRid : Code → Nat
  | .region id _ _ => id
  | .seq a _ => firstRid a
  | .block _ a => firstRid a
  | .loop a => firstRid a
  | .scope a => firstRid a
  | _ => 0

def headS (an : Ann) (a : Code) (n0 : Nat) (s : S) : S :=
  match assoc an.loops (firstRid a) with
  | some ks => trimS n0 ⟨keepT ks s.t, s.st⟩
  | none => s

def behindS (an : Ann) (id : Nat) (s : S) : S :=
  match assoc an.keep id with
  | some ks => ⟨keepT ks s.t, s.st⟩
  | none => s

def assocN : List (Nat × Nat) → Nat → Option Nat
  | [], _ => none
  | (j, v) :: r, k => bif j == k then some v else assocN r k

def bareO (an : Ann) (o : Oper) : Bool :=
  match o.op with
  | .move _ => true
  | .assign _ => !(flagOf an.virt o.dst)
  | .pick .. => true
  | .fieldAddr .. => true
  | .unOp .. => true
  | .extract .. => true
  | .makeFunc .. => true
  | .nilCheck _ => true
  | .indexAddr .. => true
  | .index .. => true
  | .call c => (match c.callee with
    | .builtin .len => true
    | .builtin .max => true
    | .builtin .min => true
    | _ => false)
  | _ => false

/-- What of the store an operation looks at or writes. -/
inductive Acc where
  | no
  | at (loc : Nat) (w : Bool)
  | all

def accO (X : Ctx) (an : Ann) (o : Oper) (s : S) : Option Acc :=
  bif !(o.guard.isNone) then none else
  match o.op with
  | .store _ a _ => (match (opv s.t a).unt with
    | .ptr loc _ _ _ => some (.at loc true)
    | _ => none)
  | .load _ a => (match (opv s.t a).unt with
    | .ptr loc _ _ _ => some (.at loc false)
    | .eptr _ _ => some .no
    | _ => none)
  | .call c => (match c.callee with
    | .value (.func f) => bif X.pure f && (X.prim f).isSome then some .all else none
    | .builtin _ => bif bareO an o then some .no else none
    | _ => none)
  | _ => bif bareO an o then some .no else none

def noCall : Call := fun _ _ _ => none

def tailA (X : Ctx) (an : Ann) (ops : Array Oper) : List Oper → S → Option (List Acc)
  | [], _ => some []
  | o :: r, s => match accO X an o s, stepO X an noCall ops o s with
    | some a, some s' => (tailA X an ops r s').map (a :: ·)
    | _, _ => none

def apart1 (a b : Acc) : Bool :=
  match a, b with
  | .at x u, .at y v => !(x == y) || !(u || v)
  | .at _ u, .all => !u
  | .all, .at _ u => !u
  | _, _ => true

def apartL : List Acc → Bool
  | [] => true
  | a :: r => r.all (apart1 a) && apartL r

def tailOk (X : Ctx) (an : Ann) (ops : Array Oper) (l : List Oper) (s : S) : Bool :=
  match tailA X an ops l s with
  | some r => apartL r
  | none => false

def regionE (X : Ctx) (an : Ann) (call : Call) (id : Nat) (ops : Array Oper) (s : S) : Option S :=
  match assocN an.dyn id with
  | none => stepsO X an call ops ops.toList s
  | some p => (stepsO X an call ops (ops.toList.take p) s).bind fun s1 => bif tailOk X an ops (ops.toList.drop p) s1 then stepsO X an call ops (ops.toList.drop p) s1 else none

def runF (X : Ctx) (an : Ann) (call : Call) : Nat → Code → S → Option (Ex × S)
  | 0, _, _ => none
  | n + 1, c, s => match c with
    | .skip => some (.norm, s)
    | .label _ => some (.norm, s)
    | .region id ops _ => (regionE X an call id ops s).map fun s' => (.norm, behindS an id s')
    | .seq a b => (runF X an call n a s).bind fun r => match r.1 with
      | .norm => runF X an call n b r.2
      | e => some (e, r.2)
    | .cond c a b => (asB (opv s.t c)).bind fun t => bif t then runF X an call n a s else runF X an call n b s
    | .block id a => (runF X an call n a s).map fun r => match r.1 with
      | .exit j => bif j == id then (.norm, r.2) else (.exit j, r.2)
      | e => (e, r.2)
    | .loop a => (runF X an call n a s).bind fun r => match r.1 with
      | .norm => runF X an call n (.loop a) (headS an a s.st.length r.2)
      | e => some (e, r.2)
    | .scope a => (runF X an call n a s).bind fun r => match r.1 with
      | .goto l => (match findLabel a l with
        | some rest => (runF X an call n rest r.2).bind fun r => match r.1 with
          | .goto _ => none
          | e => some (e, r.2)
        | none => none)
      | e => some (e, r.2)
    | .exit id => some (.exit id, s)
    | .goto l => some (.goto l, s)
    | .ret => some (.ret, s)
    | _ => none

def argsT : Nat → List AV → List (Nat × AV)
  | _, [] => []
  | n, v :: r => (n, v) :: argsT (n + 1) r

def resV (P : Program) (s : S) : ResultVar → Option AV
  | .tmp t => some (look s.t t)
  | .cell a t => (tiOf P t).bind fun i => ldPtr s.st i (look s.t a)

def resAll (P : Program) (s : S) : List ResultVar → Option (List AV)
  | [] => some []
  | r :: l => (resV P s r).bind fun v => (resAll P s l).map (v :: ·)

def resE (P : Program) (fn : Func) (s : S) : Option AV :=
  (resAll P s fn.results.toList).map fun
    | [v] => v
    | l => .tup l

def bodyE (X : Ctx) (fn : Func) : Ex × S → R
  | (.norm, s) => (resE X.P fn s).map fun v => (v, s.st)
  | (.ret, s) => (resE X.P fn s).map fun v => (v, s.st)
  | _ => none

def callN (X : Ctx) : Nat → Call
  | 0, _, _, _ => none
  | n + 1, f, args, st =>
    bif X.use f then
      match X.P.funcs[f]? with
      | some fn => match fn.body with
        | some c => (runF X (X.ann f) (callN X n) n c ⟨argsT 0 args, st⟩).bind (bodyE X fn)
        | none => none
      | none => none
    else none

end Go.Eng
